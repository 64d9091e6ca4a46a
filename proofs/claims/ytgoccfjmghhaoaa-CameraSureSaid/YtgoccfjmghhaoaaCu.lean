/-
  camera: the reference's Likely and Purity.
-/
import Derived.Test.YtgoccfjmghhaoaaCt
set_option linter.unusedVariables false
set_option linter.unusedSimpArgs false
namespace Go.Proofs.Ytgoccfjmghhaoaa
open Go.RowKit

/-- The cells that a part of a class is made of. -/
theorem part_cells {l : List (List Int)} {p : List Int} {C : Nat} {a a2 : Option Addr} {D D2 : Nat → Prop} {w : World} (hok : ExpOk l p C) (hx : Mixes D w a l) (hp : Ints D2 w a2 p) :
    ∃ b off bp op, a = some ⟨b, off, none⟩ ∧ a2 = some ⟨bp, op, none⟩ ∧ ∀ k, k < p.length → w.cell? ⟨bp, op + k, none⟩ = some (.int .i64 (ix p k)) ∧ ∃ br or_ c', w.cell? ⟨b, off + k, none⟩ = some (.slice (some ⟨br, or_, none⟩) (rx l k).length c') ∧ w.cell? ⟨br, or_ + C, none⟩ = some (.int .i64 (ix (rx l k) C)) := by
  obtain ⟨hlp, p1, p16⟩ := hok.len
  obtain ⟨_, bp, op, hap, hcp⟩ := hp.open
  obtain ⟨_, b, off, ha, hcl⟩ := hx.open
  refine ⟨b, off, bp, op, ha (by intro e; rw [e] at hlp; simp at hlp; omega), hap (by intro e; rw [e] at p1; simp at p1), fun k hk => ⟨hcp k hk, ?_⟩⟩
  obtain ⟨a', c', h2, hi⟩ := hcl k (by omega)
  obtain ⟨hmr, br, or_, har, hcr⟩ := hi.open
  have hr1 := (hok.row hk).1
  obtain rfl := har (by intro e; rw [e] at hr1; simp at hr1)
  exact ⟨br, or_, c', h2, hcr C hr1⟩

set_option maxRecDepth 100000 in
set_option maxHeartbeats 3200000 in
theorem refLikely_any (a : Option Addr) (c : Nat) (l : List (List Int)) (a2 : Option Addr) (c2 : Nat) (p : List Int) (cls : Int) (D D2 : Nat → Prop) (w : World) (hx : Mixes D w a l) (hp : Ints D2 w a2 p) :
    Calls Try.prog 21 #[.agg #[.slice a l.length c], .slice a2 p.length c2, .int .i64 cls] w fun e w' => e = .returned (.tuple #[.int .i64 (likL l p cls).1, .int .i64 (likL l p cls).2]) ∧ Mod NoBlock w w' := by
  have m0 := (Mod.refl NoBlock w).alloc (.cells #[.slice a l.length c] 24)
  have HX := Lib.hid (hx.frame m0)
  have HP := Lib.hid (hp.frame m0)
  have M := Lib.hid m0
  have HC := Lib.hid (cell_new w #[.slice a l.length c] 24 0 _ rfl)
  have HF := Lib.hid (fun w' h1 h2 => refFault_any a c l a2 c2 p cls D D2 w' h1 h2)
  clear hx hp m0
  by_cases h : expE l p cls = 0
  · have He := Lib.hid h
    obtain ⟨C, rfl, hok⟩ := expE_ok h
    have OK := Lib.hid hok
    obtain ⟨hlp, p1, p16⟩ := hok.len
    have Hlp := Lib.hid hlp
    have Hl := Lib.hid (likL_ok hok)
    have n1 : (1 : Int) ≤ p.length := by omega
    have n16 : (p.length : Int) ≤ 16 := by omega
    have c0 : (0 : Int) ≤ C := by omega
    clear h hok hlp
    go_enter Try.func21, Try.ntmps21
    go_wp2_with fail
    generalize w.alloc (.cells #[.slice a l.length c] 24) = w0 at HX HP M HC ⊢
    refine (HF.out _ HX.out HP.out).mono ?_
    rw [He.out]
    rintro e w1 ⟨rfl, m1⟩
    replace M := Lib.hid (M.out.trans m1)
    replace HX := Lib.hid (HX.out.frame m1)
    replace HP := Lib.hid (HP.out.frame m1)
    have hB := m1.cell HC.out id
    obtain ⟨b, off, bp, op, rfl, rfl, hpc⟩ := part_cells OK.out HX.out HP.out
    have Hpc := Lib.hid hpc
    have Hef := Lib.hid (show ∀ k, ef l p C k = ix p k * ix (rx l k) C from fun k => rfl)
    clear m1 HC hpc HX HP HF
    go_wp2
    go_loopw [9, 10] (fun m i wr => ∃ k : Nat, k < p.length ∧ i = .int .i64 ((k : Int) + 1) ∧ m = .int .i64 (argM (ef l p C) (k + 1)) ∧ ∃ n, wr = w1.drewN n) (fun _ i _ => p.length - (intOf i).toNat)
    case atStart => exact ⟨0, by omega, rfl, by simp [argM], 0, rfl⟩
    case round =>
      obtain ⟨k, hk, rfl, rfl, nd, rfl⟩ := hrel
      have hbest := argM_le (ef l p C) (k + 1) (by omega)
      by_cases hlt : k + 1 < p.length
      · obtain ⟨u1, br1, or1, cr1, u2, u3⟩ := Hpc.out (k + 1) hlt
        have hrow1 := OK.out.row hlt
        have hpr1 := OK.out.prior hlt
        have hef1 := OK.out.ef hlt
        have Hup := Lib.hid (fun h => argM_up (f := ef l p C) (k := k + 1) h)
        have Hnot := Lib.hid (fun h => argM_not (f := ef l p C) (k := k + 1) h)
        generalize argM (ef l p C) (k + 1) = B at hbest Hup Hnot ⊢
        have hBp : B < p.length := by omega
        obtain ⟨v1, br2, or2, cr2, v2, v3⟩ := Hpc.out B hBp
        have hrow2 := OK.out.row hBp
        have hpr2 := OK.out.prior hBp
        have hef2 := OK.out.ef hBp
        rw [Hef.out] at hef1 hef2
        rw [Hef.out, Hef.out] at Hup Hnot
        have k1 : (k : Int) + 1 < p.length := by omega
        have k2 : (k : Int) + 1 < l.length := by have := Hlp.out; omega
        have k0 : (0 : Int) ≤ (k : Int) + 1 := by omega
        have b1 : (B : Int) < p.length := by omega
        have b2 : (B : Int) < l.length := by have := Hlp.out; omega
        have b0 : (0 : Int) ≤ (B : Int) := by omega
        have r1 : (C : Int) < ((rx l (k + 1)).length : Int) := by omega
        have r2 : (C : Int) < ((rx l B).length : Int) := by omega
        obtain ⟨-, rl1, rh1⟩ := hrow1
        obtain ⟨-, rl2, rh2⟩ := hrow2
        obtain ⟨pl1, ph1⟩ := hpr1
        obtain ⟨pl2, ph2⟩ := hpr2
        generalize ix p (k + 1) = x1 at u1 pl1 ph1 hef1 Hup Hnot
        generalize ix (rx l (k + 1)) C = y1 at u3 rl1 rh1 hef1 Hup Hnot
        generalize ix p B = x2 at v1 pl2 ph2 hef2 Hup Hnot
        generalize ix (rx l B) C = y2 at v3 rl2 rh2 hef2 Hup Hnot
        have e1 : IntKind.i64.wrap (x1 * y1) = x1 * y1 := IntWalk.i64_in _ (by omega)
        have e2 : IntKind.i64.wrap (x2 * y2) = x2 * y2 := IntWalk.i64_in _ (by omega)
        clear hef1 hef2 rl1 rh1 rl2 rh2 pl1 ph1 pl2 ph2
        by_cases hc : x2 * y2 < x1 * y1
        · have Hb := Lib.hid (Hup.out hc)
          clear Hup Hnot
          go_wp2_with (go_quiet (fail))
          exact ⟨⟨k + 1, hlt, by go_num, by rw [Hb.out]; rfl, _, rfl⟩, by simp [intOf]; omega⟩
        · have Hb := Lib.hid (Hnot.out hc)
          clear Hup Hnot
          go_wp2_with (go_quiet (fail))
          exact ⟨⟨k + 1, hlt, by go_num, by rw [Hb.out], _, rfl⟩, by simp [intOf]; omega⟩
      · have hkp : k + 1 = p.length := by omega
        rw [hkp] at hbest ⊢
        generalize argM (ef l p C) p.length = B at hbest Hl ⊢
        obtain ⟨v1, br2, or2, cr2, v2, v3⟩ := Hpc.out B hbest
        have hrow2 := OK.out.row hbest
        have hpr2 := OK.out.prior hbest
        have hef2 := OK.out.ef hbest
        rw [Hef.out] at hef2
        rw [Hef.out] at Hl
        have b1 : (B : Int) < p.length := by omega
        have b2 : (B : Int) < l.length := by have := Hlp.out; omega
        have b0 : (0 : Int) ≤ (B : Int) := by omega
        have r2 : (C : Int) < ((rx l B).length : Int) := by omega
        obtain ⟨-, rl2, rh2⟩ := hrow2
        obtain ⟨pl2, ph2⟩ := hpr2
        have kk : (k : Int) + 1 = p.length := by omega
        generalize ix p B = x2 at v1 pl2 ph2 hef2 Hl
        generalize ix (rx l B) C = y2 at v3 rl2 rh2 hef2 Hl
        have e2 : IntKind.i64.wrap (x2 * y2) = x2 * y2 := IntWalk.i64_in _ (by omega)
        clear hef2 rl2 rh2 pl2 ph2
        by_cases hz : x2 * y2 = 0
        · rw [if_pos hz] at Hl
          have hz2 : (x2 * y2 == 0) = true := by simpa using hz
          go_wp2_with (go_quiet (fail))
          go_ret2
          rw [Hl.out]
          exact ⟨rfl, (M.out.drewN _).drewN _⟩
        · rw [if_neg hz] at Hl
          have hz2 : (x2 * y2 == 0) = false := by simpa using hz
          go_wp2_with (go_quiet (fail))
          go_ret2
          rw [Hl.out]
          exact ⟨rfl, (M.out.drewN _).drewN _⟩
  · rw [likL_bad h]
    have hne : (expE l p cls != 0) = true := by simpa using h
    clear h
    go_enter Try.func21, Try.ntmps21
    go_wp2_with fail
    generalize w.alloc (.cells #[.slice a l.length c] 24) = w0 at HX HP M HC ⊢
    refine (HF.out _ HX.out HP.out).mono ?_
    rintro e w1 ⟨rfl, m1⟩
    replace M := Lib.hid (M.out.trans m1)
    clear m1
    go_wp2
    go_ret2
    exact ⟨rfl, M.out⟩

end Go.Proofs.Ytgoccfjmghhaoaa
