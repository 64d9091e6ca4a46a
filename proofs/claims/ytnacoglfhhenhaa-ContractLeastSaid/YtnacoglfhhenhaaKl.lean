/-
  contract: the laws' own fixed example, walked.
-/
import Derived.Test.YtnacoglfhhenhaaKk
set_option linter.unusedVariables false
set_option linter.unusedSimpArgs false
namespace Go.Proofs.Ytnacoglfhhenhaa
open Go.RowKit

set_option maxRecDepth 100000 in
set_option maxHeartbeats 6400000 in
theorem awakeK_any (w : World) : Calls Try.prog 10 #[] w fun e w' => e = .returned (.bool true) ∧ Mod NoBlock w w' := by
  have HX := Lib.hid (exMem_at w)
  have M := Lib.hid (((((Mod.refl NoBlock w).alloc (.cells #[.int .i64 900, .int .i64 10] 51)).alloc (.cells #[.int .i64 1, .int .i64 0, .int .i64 0, .int .i64 1000, .int .i64 0, .int .i64 0, .int .i64 0, .int .i64 2, .int .i64 0, .int .i64 0, .int .i64 2000, .int .i64 0, .int .i64 0, .int .i64 0] 28)).alloc (.cells #[.int .i64 1500] 3)).alloc (.cells #[.int .i64 900] 3) |>.alloc (.cells #[.int .i64 1, .int .i64 0, .int .i64 0, .slice (some ⟨w.heap.size + 1 + 1, 0, none⟩) 1 1, .int .i64 2, .int .i64 0, .int .i64 0, .slice (some ⟨w.heap.size + 1 + 1 + 1, 0, none⟩) 1 1] 33))
  go_enter Try.func10, Try.ntmps10
  go_upto_region 4 with fail
  generalize (((((w.alloc (.cells #[.int .i64 900, .int .i64 10] 51)).alloc (.cells #[.int .i64 1, .int .i64 0, .int .i64 0, .int .i64 1000, .int .i64 0, .int .i64 0, .int .i64 0, .int .i64 2, .int .i64 0, .int .i64 0, .int .i64 2000, .int .i64 0, .int .i64 0, .int .i64 0] 28)).alloc (.cells #[.int .i64 1500] 3)).alloc (.cells #[.int .i64 900] 3)).alloc (.cells #[.int .i64 1, .int .i64 0, .int .i64 0, .slice (some ⟨w.heap.size + 1 + 1, 0, none⟩) 1 1, .int .i64 2, .int .i64 0, .int .i64 0, .slice (some ⟨w.heap.size + 1 + 1 + 1, 0, none⟩) 1 1] 33)) = w4 at HX M ⊢
  generalize w.heap.size = s at HX ⊢
  have Ha := Lib.hid (assign_any (c := 2) (cG := 1) (cB := 2) HX.out.ctrs (by decide) HX.out.grs HX.out.bals (by decide))
  go_upto_region 5 with (go_at_call 16; refine Ha.out.mono ?_; rintro e w5 ⟨aC, cC, cols, t, rfl, m, hC, hI⟩)
  obtain ⟨rfl, rfl⟩ := ex_asg hI
  have m6 := m.alloc (.cells #[.int .i64 1, .int .i64 0, .int .i64 0, .int .i64 20000, .int .i64 1000, .int .i64 50000, .int .i64 8000] 28)
  have BC := Lib.hid (rowIs_new w5 #[.int .i64 1, .int .i64 0, .int .i64 0, .int .i64 20000, .int .i64 1000, .int .i64 50000, .int .i64 8000] 28)
  have HC := Lib.hid (hC.alloc (.cells #[.int .i64 1, .int .i64 0, .int .i64 0, .int .i64 20000, .int .i64 1000, .int .i64 50000, .int .i64 8000] 28))
  replace HX := Lib.hid (HX.out.frame m6)
  replace M := Lib.hid (M.out.trans m6)
  rw [ex_err]
  clear hI hC m m6 Ha
  go_upto_region 6 with fail
  generalize w5.alloc (.cells #[.int .i64 1, .int .i64 0, .int .i64 0, .int .i64 20000, .int .i64 1000, .int .i64 50000, .int .i64 8000] 28) = w6 at BC HC HX M ⊢
  generalize w5.heap.size = gc at BC ⊢
  have Hs1 := Lib.hid fun w' => (show Calls Try.prog 21 #[.agg #[.int .i64 1, .int .i64 0, .int .i64 0, .int .i64 20000, .int .i64 1000, .int .i64 50000, .int .i64 8000], .int .i64 18500] w' fun e w'' => e = .returned (.tuple #[.int .i64 921, .int .i64 0]) ∧ Mod NoBlock w' w'' by
    have := settle_any exC 18500 w'
    rwa [ex_set1] at this)
  have Hs2 := Lib.hid fun w' => (show Calls Try.prog 21 #[.agg #[.int .i64 1, .int .i64 0, .int .i64 0, .int .i64 20000, .int .i64 1000, .int .i64 50000, .int .i64 8000], .int .i64 30000] w' fun e w'' => e = .returned (.tuple #[.int .i64 1050, .int .i64 0]) ∧ Mod NoBlock w' w'' by
    have := settle_any exC 30000 w'
    rwa [ex_set2] at this)
  have Hs3 := Lib.hid fun w' => (show Calls Try.prog 19 #[.agg #[.int .i64 1, .int .i64 0, .int .i64 0, .int .i64 20000, .int .i64 1000, .int .i64 50000, .int .i64 8000], .int .i64 18500] w' fun e w'' => e = .returned (.tuple #[.int .i64 500, .int .i64 0]) ∧ Mod NoBlock w' w'' by
    have := mis_any exC 18500 w'
    rwa [ex_mis] at this)
  have c0 : w6.cell? ⟨gc, 0, none⟩ = some (.int .i64 1) := BC.out.cell (i := 0) (by decide)
  have c1 : w6.cell? ⟨gc, 1, none⟩ = some (.int .i64 0) := BC.out.cell (i := 1) (by decide)
  have c2 : w6.cell? ⟨gc, 2, none⟩ = some (.int .i64 0) := BC.out.cell (i := 2) (by decide)
  have c3 : w6.cell? ⟨gc, 3, none⟩ = some (.int .i64 20000) := BC.out.cell (i := 3) (by decide)
  have c4 : w6.cell? ⟨gc, 4, none⟩ = some (.int .i64 1000) := BC.out.cell (i := 4) (by decide)
  have c5 : w6.cell? ⟨gc, 5, none⟩ = some (.int .i64 50000) := BC.out.cell (i := 5) (by decide)
  have c6 : w6.cell? ⟨gc, 6, none⟩ = some (.int .i64 8000) := BC.out.cell (i := 6) (by decide)
  go_upto_region 7 with (go_at_call 21; refine (Hs1.out _).mono ?_; rintro e w7 ⟨rfl, m⟩)
  replace HX := Lib.hid (HX.out.frame m)
  replace HC := Lib.hid (HC.out.frame m)
  replace M := Lib.hid (M.out.trans m)
  replace BC := Lib.hid (BC.out.of_block (m.block _ BC.out.lt id))
  clear m Hs1 c0 c1 c2 c3 c4 c5 c6
  have c0 : w7.cell? ⟨gc, 0, none⟩ = some (.int .i64 1) := BC.out.cell (i := 0) (by decide)
  have c1 : w7.cell? ⟨gc, 1, none⟩ = some (.int .i64 0) := BC.out.cell (i := 1) (by decide)
  have c2 : w7.cell? ⟨gc, 2, none⟩ = some (.int .i64 0) := BC.out.cell (i := 2) (by decide)
  have c3 : w7.cell? ⟨gc, 3, none⟩ = some (.int .i64 20000) := BC.out.cell (i := 3) (by decide)
  have c4 : w7.cell? ⟨gc, 4, none⟩ = some (.int .i64 1000) := BC.out.cell (i := 4) (by decide)
  have c5 : w7.cell? ⟨gc, 5, none⟩ = some (.int .i64 50000) := BC.out.cell (i := 5) (by decide)
  have c6 : w7.cell? ⟨gc, 6, none⟩ = some (.int .i64 8000) := BC.out.cell (i := 6) (by decide)
  go_upto_region 8 with (go_at_call 21; refine (Hs2.out _).mono ?_; rintro e w8 ⟨rfl, m⟩)
  replace HX := Lib.hid (HX.out.frame m)
  replace HC := Lib.hid (HC.out.frame m)
  replace M := Lib.hid (M.out.trans m)
  replace BC := Lib.hid (BC.out.of_block (m.block _ BC.out.lt id))
  clear m Hs2 c0 c1 c2 c3 c4 c5 c6
  have c0 : w8.cell? ⟨gc, 0, none⟩ = some (.int .i64 1) := BC.out.cell (i := 0) (by decide)
  have c1 : w8.cell? ⟨gc, 1, none⟩ = some (.int .i64 0) := BC.out.cell (i := 1) (by decide)
  have c2 : w8.cell? ⟨gc, 2, none⟩ = some (.int .i64 0) := BC.out.cell (i := 2) (by decide)
  have c3 : w8.cell? ⟨gc, 3, none⟩ = some (.int .i64 20000) := BC.out.cell (i := 3) (by decide)
  have c4 : w8.cell? ⟨gc, 4, none⟩ = some (.int .i64 1000) := BC.out.cell (i := 4) (by decide)
  have c5 : w8.cell? ⟨gc, 5, none⟩ = some (.int .i64 50000) := BC.out.cell (i := 5) (by decide)
  have c6 : w8.cell? ⟨gc, 6, none⟩ = some (.int .i64 8000) := BC.out.cell (i := 6) (by decide)
  go_upto_region 9 with (go_at_call 19; refine (Hs3.out _).mono ?_; rintro e w9 ⟨rfl, m⟩)
  replace HX := Lib.hid (HX.out.frame m)
  replace HC := Lib.hid (HC.out.frame m)
  replace M := Lib.hid (M.out.trans m)
  replace BC := Lib.hid (BC.out.of_block (m.block _ BC.out.lt id))
  clear m Hs3 c0 c1 c2 c3 c4 c5 c6
  have HI := Lib.hid (show Calls Try.prog 18 #[.slice aC 2 cC, .slice (some ⟨w9.heap.size, 0, none⟩) 2 2] ((w9.alloc (.cells #[.int .i64 1, .int .i64 0] 3)).drew) fun e w' => e = .returned (.bool true) ∧ Drawn ((w9.alloc (.cells #[.int .i64 1, .int .i64 0] 3)).drew) w' by
    have := ints52_any aC (some ⟨w9.heap.size, 0, none⟩) cC 2 [1, 0] [1, 0] _ KAll ((w9.alloc (.cells #[.int .i64 1, .int .i64 0] 3)).drew) (HC.out.alloc _) (ints_row2 (rowIs_new w9 #[.int .i64 1, .int .i64 0] 3))
    rwa [decide_eq_true (rfl : ([1, 0] : List Int) = [1, 0])] at this)
  clear BC HC
  have t0 : w9.cell? ⟨s + 1, 0, none⟩ = some (.int .i64 1) := HX.out.ct.cell (i := 0) (by decide)
  have t1 : w9.cell? ⟨s + 1, 1, none⟩ = some (.int .i64 0) := HX.out.ct.cell (i := 1) (by decide)
  have t2 : w9.cell? ⟨s + 1, 2, none⟩ = some (.int .i64 0) := HX.out.ct.cell (i := 2) (by decide)
  have t3 : w9.cell? ⟨s + 1, 3, none⟩ = some (.int .i64 1000) := HX.out.ct.cell (i := 3) (by decide)
  have t4 : w9.cell? ⟨s + 1, 4, none⟩ = some (.int .i64 0) := HX.out.ct.cell (i := 4) (by decide)
  have t5 : w9.cell? ⟨s + 1, 5, none⟩ = some (.int .i64 0) := HX.out.ct.cell (i := 5) (by decide)
  have t6 : w9.cell? ⟨s + 1, 6, none⟩ = some (.int .i64 0) := HX.out.ct.cell (i := 6) (by decide)
  have t7 : w9.cell? ⟨s + 1 + 1 + 1 + 1, 0, none⟩ = some (.int .i64 1) := HX.out.ba.cell (i := 0) (by decide)
  have t8 : w9.cell? ⟨s + 1 + 1 + 1 + 1, 1, none⟩ = some (.int .i64 0) := HX.out.ba.cell (i := 1) (by decide)
  have t9 : w9.cell? ⟨s + 1 + 1 + 1 + 1, 2, none⟩ = some (.int .i64 0) := HX.out.ba.cell (i := 2) (by decide)
  have t10 : w9.cell? ⟨s + 1 + 1 + 1 + 1, 3, none⟩ = some (.slice (some ⟨s + 1 + 1, 0, none⟩) 1 1) := HX.out.ba.cell (i := 3) (by decide)
  go_region_held3 (fun w' => w'.cell? ⟨s + 1, 0, none⟩ = some (.int .i64 1) ∧ w'.cell? ⟨s + 1, 1, none⟩ = some (.int .i64 0) ∧ w'.cell? ⟨s + 1, 2, none⟩ = some (.int .i64 0) ∧ w'.cell? ⟨s + 1, 3, none⟩ = some (.int .i64 1000) ∧ w'.cell? ⟨s + 1, 4, none⟩ = some (.int .i64 0) ∧ w'.cell? ⟨s + 1, 5, none⟩ = some (.int .i64 0) ∧ w'.cell? ⟨s + 1, 6, none⟩ = some (.int .i64 0) ∧ w'.cell? ⟨s + 1 + 1 + 1 + 1, 0, none⟩ = some (.int .i64 1) ∧ w'.cell? ⟨s + 1 + 1 + 1 + 1, 1, none⟩ = some (.int .i64 0) ∧ w'.cell? ⟨s + 1 + 1 + 1 + 1, 2, none⟩ = some (.int .i64 0) ∧ w'.cell? ⟨s + 1 + 1 + 1 + 1, 3, none⟩ = some (.slice (some ⟨s + 1 + 1, 0, none⟩) 1 1))
    (first
      | exact ⟨t0, t1, t2, t3, t4, t5, t6, t7, t8, t9, t10⟩
      | go_keep)
    (first
      | (go_at_call 18; refine HI.out.mono ?_; rintro e w10 ⟨rfl, hd⟩
         have m10 := (((Mod.refl NoBlock w9).alloc (.cells #[.int .i64 1, .int .i64 0] 3)).drew).drawn hd
         have HX10 := Lib.hid (HX.out.frame m10)
         have M10 := Lib.hid (M.out.trans m10)
         have Hf := Lib.hid (fits_any ⟨1, 0, 0, 1000, 0, 0, 0⟩ ⟨1, 0, 0, [1500]⟩ (c := 1) (c2 := 1) HX10.out.grs (ints_row1 HX10.out.m1))
         rw [ex_fit] at Hf
         clear t0 t1 t2 t3 t4 t5 t6 t7 t8 t9 t10
         have t0 : w10.cell? ⟨s + 1, 0, none⟩ = some (.int .i64 1) := HX10.out.ct.cell (i := 0) (by decide)
         have t1 : w10.cell? ⟨s + 1, 1, none⟩ = some (.int .i64 0) := HX10.out.ct.cell (i := 1) (by decide)
         have t2 : w10.cell? ⟨s + 1, 2, none⟩ = some (.int .i64 0) := HX10.out.ct.cell (i := 2) (by decide)
         have t3 : w10.cell? ⟨s + 1, 3, none⟩ = some (.int .i64 1000) := HX10.out.ct.cell (i := 3) (by decide)
         have t4 : w10.cell? ⟨s + 1, 4, none⟩ = some (.int .i64 0) := HX10.out.ct.cell (i := 4) (by decide)
         have t5 : w10.cell? ⟨s + 1, 5, none⟩ = some (.int .i64 0) := HX10.out.ct.cell (i := 5) (by decide)
         have t6 : w10.cell? ⟨s + 1, 6, none⟩ = some (.int .i64 0) := HX10.out.ct.cell (i := 6) (by decide)
         have t7 : w10.cell? ⟨s + 1 + 1 + 1 + 1, 0, none⟩ = some (.int .i64 1) := HX10.out.ba.cell (i := 0) (by decide)
         have t8 : w10.cell? ⟨s + 1 + 1 + 1 + 1, 1, none⟩ = some (.int .i64 0) := HX10.out.ba.cell (i := 1) (by decide)
         have t9 : w10.cell? ⟨s + 1 + 1 + 1 + 1, 2, none⟩ = some (.int .i64 0) := HX10.out.ba.cell (i := 2) (by decide)
         have t10 : w10.cell? ⟨s + 1 + 1 + 1 + 1, 3, none⟩ = some (.slice (some ⟨s + 1 + 1, 0, none⟩) 1 1) := HX10.out.ba.cell (i := 3) (by decide)
         clear m10 hd)
      | (go_at_call 14; refine Hf.out.mono ?_; rintro e w11 ⟨rfl, m11⟩
         have HX11 := Lib.hid (HX10.out.frame m11)
         have M11 := Lib.hid (M10.out.trans m11)
         clear t0 t1 t2 t3 t4 t5 t6 t7 t8 t9 t10
         have t0 : w11.cell? ⟨s + 1, 0, none⟩ = some (.int .i64 1) := HX11.out.ct.cell (i := 0) (by decide)
         have t1 : w11.cell? ⟨s + 1, 1, none⟩ = some (.int .i64 0) := HX11.out.ct.cell (i := 1) (by decide)
         have t2 : w11.cell? ⟨s + 1, 2, none⟩ = some (.int .i64 0) := HX11.out.ct.cell (i := 2) (by decide)
         have t3 : w11.cell? ⟨s + 1, 3, none⟩ = some (.int .i64 1000) := HX11.out.ct.cell (i := 3) (by decide)
         have t4 : w11.cell? ⟨s + 1, 4, none⟩ = some (.int .i64 0) := HX11.out.ct.cell (i := 4) (by decide)
         have t5 : w11.cell? ⟨s + 1, 5, none⟩ = some (.int .i64 0) := HX11.out.ct.cell (i := 5) (by decide)
         have t6 : w11.cell? ⟨s + 1, 6, none⟩ = some (.int .i64 0) := HX11.out.ct.cell (i := 6) (by decide)
         have t7 : w11.cell? ⟨s + 1 + 1 + 1 + 1, 0, none⟩ = some (.int .i64 1) := HX11.out.ba.cell (i := 0) (by decide)
         have t8 : w11.cell? ⟨s + 1 + 1 + 1 + 1, 1, none⟩ = some (.int .i64 0) := HX11.out.ba.cell (i := 1) (by decide)
         have t9 : w11.cell? ⟨s + 1 + 1 + 1 + 1, 2, none⟩ = some (.int .i64 0) := HX11.out.ba.cell (i := 2) (by decide)
         have t10 : w11.cell? ⟨s + 1 + 1 + 1 + 1, 3, none⟩ = some (.slice (some ⟨s + 1 + 1, 0, none⟩) 1 1) := HX11.out.ba.cell (i := 3) (by decide)
         clear m11)
      | (refine step_append_guarded (by rfl) _ _ 22 rfl 28 _ _ 7 56 Try.underlying22 rfl rfl rfl rfl rfl (by decide) ⟨s + 1, 0, none⟩ 2 2 exA2.toList rfl rfl (row_cells ((HX11.out.frame ((Mod.refl NoBlock w11).alloc (.cells exA1 28))).ct) (by decide)) ⟨w11.heap.size, 0, none⟩ 1 1 exA1.toList rfl rfl (row_cells (rowIs_new w11 exA1 28) (by decide)) (by decide) (by decide) (by decide) (by decide) ?_; intro v' w12 hown hgr
         obtain ⟨a3, c3, rfl, hc3, hct⟩ := exL3_at hown
         have m12 := ((Mod.refl NoBlock w11).alloc (.cells exA1 28)).grown hgr (fun k e => by cases e)
         have M12 := Lib.hid (M11.out.trans m12)
         have HX12 := Lib.hid (HX11.out.frame m12)
         have Hk := Lib.hid (check52_any (n := 1) hct hc3)
         clear t0 t1 t2 t3 t4 t5 t6 t7 t8 t9 t10
         have t0 : w12.cell? ⟨s + 1, 0, none⟩ = some (.int .i64 1) := HX12.out.ct.cell (i := 0) (by decide)
         have t1 : w12.cell? ⟨s + 1, 1, none⟩ = some (.int .i64 0) := HX12.out.ct.cell (i := 1) (by decide)
         have t2 : w12.cell? ⟨s + 1, 2, none⟩ = some (.int .i64 0) := HX12.out.ct.cell (i := 2) (by decide)
         have t3 : w12.cell? ⟨s + 1, 3, none⟩ = some (.int .i64 1000) := HX12.out.ct.cell (i := 3) (by decide)
         have t4 : w12.cell? ⟨s + 1, 4, none⟩ = some (.int .i64 0) := HX12.out.ct.cell (i := 4) (by decide)
         have t5 : w12.cell? ⟨s + 1, 5, none⟩ = some (.int .i64 0) := HX12.out.ct.cell (i := 5) (by decide)
         have t6 : w12.cell? ⟨s + 1, 6, none⟩ = some (.int .i64 0) := HX12.out.ct.cell (i := 6) (by decide)
         have t7 : w12.cell? ⟨s + 1 + 1 + 1 + 1, 0, none⟩ = some (.int .i64 1) := HX12.out.ba.cell (i := 0) (by decide)
         have t8 : w12.cell? ⟨s + 1 + 1 + 1 + 1, 1, none⟩ = some (.int .i64 0) := HX12.out.ba.cell (i := 1) (by decide)
         have t9 : w12.cell? ⟨s + 1 + 1 + 1 + 1, 2, none⟩ = some (.int .i64 0) := HX12.out.ba.cell (i := 2) (by decide)
         have t10 : w12.cell? ⟨s + 1 + 1 + 1 + 1, 3, none⟩ = some (.slice (some ⟨s + 1 + 1, 0, none⟩) 1 1) := HX12.out.ba.cell (i := 3) (by decide)
         clear hown hgr hc3 hct m12)
      | (go_at_call 11; refine Hk.out.mono ?_; rintro e w13 ⟨rfl, m13⟩; rw [ex_dup]
         have HX13 := Lib.hid (HX12.out.frame m13)
         have M13 := Lib.hid (M12.out.trans m13)
         clear t0 t1 t2 t3 t4 t5 t6 t7 t8 t9 t10
         have t0 : w13.cell? ⟨s + 1, 0, none⟩ = some (.int .i64 1) := HX13.out.ct.cell (i := 0) (by decide)
         have t1 : w13.cell? ⟨s + 1, 1, none⟩ = some (.int .i64 0) := HX13.out.ct.cell (i := 1) (by decide)
         have t2 : w13.cell? ⟨s + 1, 2, none⟩ = some (.int .i64 0) := HX13.out.ct.cell (i := 2) (by decide)
         have t3 : w13.cell? ⟨s + 1, 3, none⟩ = some (.int .i64 1000) := HX13.out.ct.cell (i := 3) (by decide)
         have t4 : w13.cell? ⟨s + 1, 4, none⟩ = some (.int .i64 0) := HX13.out.ct.cell (i := 4) (by decide)
         have t5 : w13.cell? ⟨s + 1, 5, none⟩ = some (.int .i64 0) := HX13.out.ct.cell (i := 5) (by decide)
         have t6 : w13.cell? ⟨s + 1, 6, none⟩ = some (.int .i64 0) := HX13.out.ct.cell (i := 6) (by decide)
         have t7 : w13.cell? ⟨s + 1 + 1 + 1 + 1, 0, none⟩ = some (.int .i64 1) := HX13.out.ba.cell (i := 0) (by decide)
         have t8 : w13.cell? ⟨s + 1 + 1 + 1 + 1, 1, none⟩ = some (.int .i64 0) := HX13.out.ba.cell (i := 1) (by decide)
         have t9 : w13.cell? ⟨s + 1 + 1 + 1 + 1, 2, none⟩ = some (.int .i64 0) := HX13.out.ba.cell (i := 2) (by decide)
         have t10 : w13.cell? ⟨s + 1 + 1 + 1 + 1, 3, none⟩ = some (.slice (some ⟨s + 1 + 1, 0, none⟩) 1 1) := HX13.out.ba.cell (i := 3) (by decide)))
  all_goals (go_wp2_with fail; go_ret; exact ⟨rfl, M13.out⟩)

end Go.Proofs.Ytnacoglfhhenhaa
