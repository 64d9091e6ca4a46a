/-
  match: the laws' own fixed example, walked.
-/
import Derived.Test.YtddjkmaigifomaaMk
set_option linter.unusedVariables false
set_option linter.unusedSimpArgs false
namespace Go.Proofs.Ytddjkmaigifomaa
open Go.RowKit

theorem Ints.take1 {D : Nat → Prop} {w : World} {a : Option Addr} {x y : Int} (h : Ints D w a [x, y]) : Ints D w a [x] :=
  ⟨by simp [maxLen], fun _ => by
    obtain ⟨b, off, h1, h2, h3⟩ := h.2 (by simp)
    refine ⟨b, off, h1, h2, fun k hk => ?_⟩
    obtain rfl : k = 0 := by simp at hk; omega
    exact h3 0 (by simp)⟩

set_option maxRecDepth 100000 in
set_option maxHeartbeats 6400000 in
theorem awakeM_any (w : World) : Calls Try.prog 13 #[] w fun e w' => e = .returned (.bool true) ∧ Mod NoBlock w w' := by
  have HX := Lib.hid (exM_at w 4 1 2 9)
  have M := Lib.hid (((Mod.refl NoBlock w).alloc (.cells #[.int .i64 4, .int .i64 1] 3)).alloc (.cells #[.int .i64 2, .int .i64 9] 3) |>.alloc (.cells #[.slice (some ⟨w.heap.size, 0, none⟩) 2 2, .slice (some ⟨w.heap.size + 1, 0, none⟩) 2 2] 23))
  go_enter Try.func13, Try.ntmps13
  go_upto_region 2 with fail
  generalize (((w.alloc (.cells #[.int .i64 4, .int .i64 1] 3)).alloc (.cells #[.int .i64 2, .int .i64 9] 3)).alloc (.cells #[.slice (some ⟨w.heap.size, 0, none⟩) 2 2, .slice (some ⟨w.heap.size + 1, 0, none⟩) 2 2] 23)) = w1 at HX M ⊢
  generalize w.heap.size + 1 + 1 = g1 at HX ⊢
  go_upto_region 3 with fail
  have HS := Lib.hid (Ints.pair MAll w1 10 10 3 trivial)
  replace HX := Lib.hid (HX.out.alloc (.cells #[.int .i64 10, .int .i64 10] 3))
  replace M := Lib.hid (M.out.alloc (.cells #[.int .i64 10, .int .i64 10] 3))
  generalize w1.alloc (.cells #[.int .i64 10, .int .i64 10] 3) = w2 at HX HS M ⊢
  generalize w1.heap.size = g2 at HS ⊢
  have hk : chkM [[4, 1], [2, 9]] [10, 10] = 0 := by decide
  have Hs := Lib.hid (solve_ok (n := 2) (k := 2) (c := 2) (d := 2) HX.out HS.out hk rfl rfl)
  clear hk
  go_upto_region 4 with (go_at_call 14; refine Hs.out.mono ?_; rintro e w3 ⟨t, wf, u, v, aC, cC, aU, cU, aV, cV, rfl, m3, hF, hp9, hc, hq9, hr9⟩)
  obtain ⟨et, ec⟩ := ex1 hF
  rw [ec] at hc
  rw [et]
  clear hF et ec Hs hp9 hq9 hr9
  have HC1 := Lib.hid ((hc.mono (D' := MAll) (fun _ _ _ => trivial)).alloc (.cells #[.slice aC 2 cC, .int .i64 3, .slice aU 2 cU, .slice aV 2 cV] 29))
  have HB1 := Lib.hid (rowIs_new w3 #[.slice aC 2 cC, .int .i64 3, .slice aU 2 cU, .slice aV 2 cV] 29)
  have m4 := m3.alloc (.cells #[.slice aC 2 cC, .int .i64 3, .slice aU 2 cU, .slice aV 2 cV] 29)
  replace HX := Lib.hid (HX.out.frame m4)
  replace HS := Lib.hid (HS.out.frame m4)
  replace M := Lib.hid (M.out.trans m4)
  clear hc m3 m4
  generalize w3.alloc (.cells #[.slice aC 2 cC, .int .i64 3, .slice aU 2 cU, .slice aV 2 cV] 29) = w4 at HC1 HB1 HX HS M ⊢
  generalize w3.heap.size = gm at HB1 ⊢
  clear u v wf t
  -- the second example
  have HX2 := Lib.hid (exM1_at w4 5)
  have m5 := ((Mod.refl NoBlock w4).alloc (.cells #[.int .i64 5] 3)).alloc (.cells #[.slice (some ⟨w4.heap.size, 0, none⟩) 1 1] 23)
  have HS2 := Lib.hid (Ints.one MAll ((w4.alloc (.cells #[.int .i64 5] 3)).alloc (.cells #[.slice (some ⟨w4.heap.size, 0, none⟩) 1 1] 23)) 3 3 trivial)
  have hk : chkM [[5]] [3] = 0 := by decide
  have Hs := Lib.hid (solve_ok (n := 1) (k := 1) (c := 1) (d := 1) (HX2.out.alloc (.cells #[.int .i64 3] 3)) HS2.out hk rfl rfl)
  have hsz : ((w4.alloc (.cells #[.int .i64 5] 3)).alloc (.cells #[.slice (some ⟨w4.heap.size, 0, none⟩) 1 1] 23)).heap.size = w4.heap.size + 1 + 1 := by simp
  have M5 := Lib.hid (m5.alloc (.cells #[.int .i64 3] 3))
  rw [hsz] at Hs
  clear hk hsz m5 HX2 HS2
  go_upto_region 5 with (go_at_call 14; refine Hs.out.mono ?_; rintro e w5 ⟨t, wf, u, v, aC2, cC2, aU2, cU2, aV2, cV2, rfl, m5, hF, hp9, hc, hq9, hr9⟩)
  obtain ⟨et, ec⟩ := ex2 hF
  rw [ec] at hc
  rw [et]
  clear hF et ec Hs hp9 hq9 hr9
  have m6 := (M5.out.trans m5).alloc (.cells #[.slice aC2 1 cC2, .int .i64 3, .slice aU2 1 cU2, .slice aV2 1 cV2] 29)
  have HC2 := Lib.hid ((hc.mono (D' := MAll) (fun _ _ _ => trivial)).alloc (.cells #[.slice aC2 1 cC2, .int .i64 3, .slice aU2 1 cU2, .slice aV2 1 cV2] 29))
  have HB2 := Lib.hid (rowIs_new w5 #[.slice aC2 1 cC2, .int .i64 3, .slice aU2 1 cU2, .slice aV2 1 cV2] 29)
  replace HX := Lib.hid (HX.out.frame m6)
  replace HS := Lib.hid (HS.out.frame m6)
  replace M := Lib.hid (M.out.trans m6)
  replace HC1 := Lib.hid (HC1.out.frame m6)
  replace HB1 := Lib.hid (HB1.out.of_block (m6.block _ HB1.out.lt id))
  clear hc m5 m6 M5
  generalize w5.alloc (.cells #[.slice aC2 1 cC2, .int .i64 3, .slice aU2 1 cU2, .slice aV2 1 cV2] 29) = w6 at HC1 HB1 HC2 HB2 HX HS M ⊢
  generalize w5.heap.size = gn at HB2 ⊢
  clear u v wf t
  -- the costs of two assignments
  have m7 := (Mod.refl NoBlock w6).alloc (.cells #[.int .i64 0, .int .i64 1] 3)
  have Hv := Lib.hid (value_any (c := 2) (d := 2) (c3 := 2) (HX.out.frame m7) (HS.out.frame m7) (Ints.pair MAll w6 0 1 3 trivial))
  have hv1 : valM [[4, 1], [2, 9]] [10, 10] [0, 1] = (13, 0) := by decide
  rw [hv1] at Hv
  clear hv1
  go_upto_region 6 with (go_at_call 18; refine Hv.out.mono ?_; rintro e w7 ⟨rfl, m8⟩)
  have m9 := m7.trans m8
  replace HX := Lib.hid (HX.out.frame m9)
  replace HS := Lib.hid (HS.out.frame m9)
  replace M := Lib.hid (M.out.trans m9)
  replace HC1 := Lib.hid (HC1.out.frame m9)
  replace HB1 := Lib.hid (HB1.out.of_block (m9.block _ HB1.out.lt id))
  replace HC2 := Lib.hid (HC2.out.frame m9)
  replace HB2 := Lib.hid (HB2.out.of_block (m9.block _ HB2.out.lt id))
  clear m7 m8 m9 Hv
  have m7 := (Mod.refl NoBlock w7).alloc (.cells #[.int .i64 0, .int .i64 0] 3)
  have Hv := Lib.hid (value_any (c := 2) (d := 2) (c3 := 2) (HX.out.frame m7) (HS.out.frame m7) (Ints.pair MAll w7 0 0 3 trivial))
  have hv1 : valM [[4, 1], [2, 9]] [10, 10] [0, 0] = (0, 6) := by decide
  rw [hv1] at Hv
  clear hv1
  go_upto_region 7 with (go_at_call 18; refine Hv.out.mono ?_; rintro e w8 ⟨rfl, m8⟩)
  have m9 := m7.trans m8
  replace HX := Lib.hid (HX.out.frame m9)
  replace HS := Lib.hid (HS.out.frame m9)
  replace M := Lib.hid (M.out.trans m9)
  replace HC1 := Lib.hid (HC1.out.frame m9)
  replace HB1 := Lib.hid (HB1.out.of_block (m9.block _ HB1.out.lt id))
  replace HC2 := Lib.hid (HC2.out.frame m9)
  replace HB2 := Lib.hid (HB2.out.of_block (m9.block _ HB2.out.lt id))
  clear m7 m8 m9 Hv
  have c0 : w8.cell? ⟨gm, 0, none⟩ = some (.slice aC 2 cC) := HB1.out.cell (i := 0) (by show 0 < 4; omega)
  go_wp2_with fail
  refine (rsame10_any aC _ cC 2 [1, 0] [1, 0] MAll MAll _ (HC1.out.alloc _) (Ints.pair MAll w8 1 0 3 trivial)).mono ?_
  rintro e wa ⟨rfl, hdr⟩
  have m9 := ((Mod.refl NoBlock w8).alloc (.cells #[.int .i64 1, .int .i64 0] 3)).drawn hdr
  replace HX := Lib.hid (HX.out.frame m9)
  replace HS := Lib.hid (HS.out.frame m9)
  replace M := Lib.hid (M.out.trans m9)
  replace HC2 := Lib.hid (HC2.out.frame m9)
  replace HB1 := Lib.hid (HB1.out.of_block (m9.block _ HB1.out.lt id))
  replace HB2 := Lib.hid (HB2.out.of_block (m9.block _ HB2.out.lt id))
  clear m9
  clear c0 hdr HC1
  rw [show decide (([1, 0] : List Int) = [1, 0]) = true from rfl]
  have c1 : wa.cell? ⟨gm, 1, none⟩ = some (.int .i64 3) := HB1.out.cell (i := 1) (by show 1 < 4; omega)
  have c2 : wa.cell? ⟨gn, 0, none⟩ = some (.slice aC2 1 cC2) := HB2.out.cell (i := 0) (by show 0 < 4; omega)
  go_wp2_with fail
  refine (rsame10_any aC2 _ cC2 1 [-1] [-1] MAll MAll _ (HC2.out.alloc _) (Ints.one MAll wa (-1) 3 trivial)).mono ?_
  rintro e wb ⟨rfl, hdr⟩
  have m9 := ((Mod.refl NoBlock wa).alloc (.cells #[.int .i64 (-1)] 3)).drawn hdr
  replace HX := Lib.hid (HX.out.frame m9)
  replace HS := Lib.hid (HS.out.frame m9)
  replace M := Lib.hid (M.out.trans m9)
  replace HC2 := Lib.hid (HC2.out.frame m9)
  replace HB1 := Lib.hid (HB1.out.of_block (m9.block _ HB1.out.lt id))
  replace HB2 := Lib.hid (HB2.out.of_block (m9.block _ HB2.out.lt id))
  clear m9
  clear c1 c2 hdr HC2
  rw [show decide (([-1] : List Int) = [-1]) = true from rfl]
  have c1 : wb.cell? ⟨gn, 1, none⟩ = some (.int .i64 3) := HB2.out.cell (i := 1) (by show 1 < 4; omega)
  go_wp2_with fail
  have hck := check_any (c := 2) (d := 2) (sk := [10]) HX.out (HS.out.take1)
  refine (hck).mono ?_
  rintro e wc ⟨rfl, rfl⟩
  rw [show chkM [[4, 1], [2, 9]] [10] = 3 by decide]
  clear hck c1
  have hC := ((Ints.pair MAll wb 1 0 3 trivial).alloc (.cells #[.int .i64 1, .int .i64 2] 3)).alloc (.cells #[.int .i64 0, .int .i64 0] 3)
  have hU := (Ints.pair MAll (wb.alloc (.cells #[.int .i64 1, .int .i64 0] 3)) 1 2 3 trivial).alloc (.cells #[.int .i64 0, .int .i64 0] 3)
  have hV := Ints.pair MAll ((wb.alloc (.cells #[.int .i64 1, .int .i64 0] 3)).alloc (.cells #[.int .i64 1, .int .i64 2] 3)) 0 0 3 trivial
  have e1 : (wb.alloc (.cells #[.int .i64 1, .int .i64 0] 3)).heap.size = wb.heap.size + 1 := by simp
  have e2 : ((wb.alloc (.cells #[.int .i64 1, .int .i64 0] 3)).alloc (.cells #[.int .i64 1, .int .i64 2] 3)).heap.size = wb.heap.size + 1 + 1 := by simp
  rw [e1] at hU
  rw [e2] at hV
  have Hp := Lib.hid (proves_ok (c := 2) (d := 2) (cC := 2) (cU := 2) (cV := 2) (t := 3) (((HX.out.alloc (.cells #[.int .i64 1, .int .i64 0] 3)).alloc (.cells #[.int .i64 1, .int .i64 2] 3)).alloc (.cells #[.int .i64 0, .int .i64 0] 3)) (((HS.out.alloc (.cells #[.int .i64 1, .int .i64 0] 3)).alloc (.cells #[.int .i64 1, .int .i64 2] 3)).alloc (.cells #[.int .i64 0, .int .i64 0] 3)) hC hU hV exP1.pre)
  clear hC hU hV e1 e2
  go_wp2_with fail
  refine Hp.out.mono ?_
  rintro e wd ⟨r, rfl, hr, mm⟩
  have m9 := ((((Mod.refl NoBlock wb).alloc (.cells #[.int .i64 1, .int .i64 0] 3)).alloc (.cells #[.int .i64 1, .int .i64 2] 3)).alloc (.cells #[.int .i64 0, .int .i64 0] 3)).trans mm
  obtain rfl : r = true := hr.2 exP1
  replace HX := Lib.hid (HX.out.frame m9)
  replace HS := Lib.hid (HS.out.frame m9)
  replace M := Lib.hid (M.out.trans m9)
  clear m9 mm hr Hp
  have hC := ((Ints.pair MAll wd 0 1 3 trivial).alloc (.cells #[.int .i64 4, .int .i64 9] 3)).alloc (.cells #[.int .i64 0, .int .i64 0] 3)
  have hU := (Ints.pair MAll (wd.alloc (.cells #[.int .i64 0, .int .i64 1] 3)) 4 9 3 trivial).alloc (.cells #[.int .i64 0, .int .i64 0] 3)
  have hV := Ints.pair MAll ((wd.alloc (.cells #[.int .i64 0, .int .i64 1] 3)).alloc (.cells #[.int .i64 4, .int .i64 9] 3)) 0 0 3 trivial
  have e1 : (wd.alloc (.cells #[.int .i64 0, .int .i64 1] 3)).heap.size = wd.heap.size + 1 := by simp
  have e2 : ((wd.alloc (.cells #[.int .i64 0, .int .i64 1] 3)).alloc (.cells #[.int .i64 4, .int .i64 9] 3)).heap.size = wd.heap.size + 1 + 1 := by simp
  rw [e1] at hU
  rw [e2] at hV
  have Hp := Lib.hid (proves_ok (c := 2) (d := 2) (cC := 2) (cU := 2) (cV := 2) (t := 13) (((HX.out.alloc (.cells #[.int .i64 0, .int .i64 1] 3)).alloc (.cells #[.int .i64 4, .int .i64 9] 3)).alloc (.cells #[.int .i64 0, .int .i64 0] 3)) (((HS.out.alloc (.cells #[.int .i64 0, .int .i64 1] 3)).alloc (.cells #[.int .i64 4, .int .i64 9] 3)).alloc (.cells #[.int .i64 0, .int .i64 0] 3)) hC hU hV exP2p)
  clear hC hU hV e1 e2
  go_wp2_with fail
  refine Hp.out.mono ?_
  rintro e we ⟨r, rfl, hr, mm⟩
  have m9 := ((((Mod.refl NoBlock wd).alloc (.cells #[.int .i64 0, .int .i64 1] 3)).alloc (.cells #[.int .i64 4, .int .i64 9] 3)).alloc (.cells #[.int .i64 0, .int .i64 0] 3)).trans mm
  obtain rfl : r = false := by cases r; rfl; exact absurd (hr.1 rfl) exP2
  replace M := Lib.hid (M.out.trans m9)
  clear m9 mm hr Hp HX HS
  go_wp2_with fail
  go_ret
  exact ⟨rfl, M.out⟩

end Go.Proofs.Ytddjkmaigifomaa
