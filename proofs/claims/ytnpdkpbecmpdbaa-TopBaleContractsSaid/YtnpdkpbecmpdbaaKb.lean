/-
  contract: numbers, missing, Missing, of the code and of the reference.
-/
import Derived.Test.YtnpdkpbecmpdbaaKa
set_option linter.unusedVariables false
set_option linter.unusedSimpArgs false
namespace Go.Proofs.Ytnpdkpbecmpdbaa
open Go.RowKit

set_option maxRecDepth 100000 in
set_option maxHeartbeats 3200000 in
theorem numbers_any (x : Ctr) (w : World) : Calls Try.prog 42 #[.agg #[.int .i64 x.i, .int .i64 x.m, .int .i64 x.g, .int .i64 x.w, .int .i64 x.s, .int .i64 x.p, .int .i64 x.q]] w fun e w' => e = .returned (.bool (numC x)) ∧ Mod NoBlock w w' := by
  have m0 := (Mod.refl NoBlock w).alloc (.cells #[.int .i64 x.i, .int .i64 x.m, .int .i64 x.g, .int .i64 x.w, .int .i64 x.s, .int .i64 x.p, .int .i64 x.q] 58)
  have M0 := Lib.hid m0
  clear m0
  by_cases h1 : 1 ≤ x.w
  case neg =>
    have Hn := Lib.hid (numC_no (x := x) fun h => h1 (h.1))
    go_enter Try.func42, Try.ntmps42
    go_wp2_with fail
    go_ret
    exact ⟨ret_bool (by rw [Hn.out]), M0.out⟩
  by_cases h2 : x.w ≤ 1073741824
  case neg =>
    have Hn := Lib.hid (numC_no (x := x) fun h => h2 (h.2.1))
    go_enter Try.func42, Try.ntmps42
    go_wp2_with fail
    go_ret
    exact ⟨ret_bool (by rw [Hn.out]), M0.out⟩
  by_cases h3 : 0 ≤ x.s
  case neg =>
    have Hn := Lib.hid (numC_no (x := x) fun h => h3 (h.2.2.1))
    go_enter Try.func42, Try.ntmps42
    go_wp2_with fail
    go_ret
    exact ⟨ret_bool (by rw [Hn.out]), M0.out⟩
  by_cases h4 : x.s ≤ x.w
  case neg =>
    have Hn := Lib.hid (numC_no (x := x) fun h => h4 (h.2.2.2.1))
    go_enter Try.func42, Try.ntmps42
    go_wp2_with fail
    go_ret
    exact ⟨ret_bool (by rw [Hn.out]), M0.out⟩
  by_cases h5 : 0 ≤ x.p
  case neg =>
    have Hn := Lib.hid (numC_no (x := x) fun h => h5 (h.2.2.2.2.1))
    go_enter Try.func42, Try.ntmps42
    go_wp2_with fail
    go_ret
    exact ⟨ret_bool (by rw [Hn.out]), M0.out⟩
  by_cases h6 : x.p ≤ 1000000
  case neg =>
    have Hn := Lib.hid (numC_no (x := x) fun h => h6 (h.2.2.2.2.2.1))
    go_enter Try.func42, Try.ntmps42
    go_wp2_with fail
    go_ret
    exact ⟨ret_bool (by rw [Hn.out]), M0.out⟩
  by_cases h7 : 0 ≤ x.q
  case neg =>
    have Hn := Lib.hid (numC_no (x := x) fun h => h7 (h.2.2.2.2.2.2.1))
    go_enter Try.func42, Try.ntmps42
    go_wp2_with fail
    go_ret
    exact ⟨ret_bool (by rw [Hn.out]), M0.out⟩
  by_cases h8 : x.q ≤ 1000000
  case neg =>
    have Hn := Lib.hid (numC_no (x := x) fun h => h8 (h.2.2.2.2.2.2.2))
    go_enter Try.func42, Try.ntmps42
    go_wp2_with fail
    go_ret
    exact ⟨ret_bool (by rw [Hn.out]), M0.out⟩
  have Hy := Lib.hid (numC_of (x := x) ⟨h1, h2, h3, h4, h5, h6, h7, h8⟩)
  go_enter Try.func42, Try.ntmps42
  go_wp2_with fail
  go_ret
  exact ⟨ret_bool (by rw [Hy.out]), M0.out⟩

set_option maxRecDepth 100000 in
set_option maxHeartbeats 3200000 in
theorem missing_any (x : Ctr) (n : Int) (w : World) (hx : NumC x) (h0 : 0 ≤ n) (h1 : n ≤ 70368744177664) : Calls Try.prog 38 #[.agg #[.int .i64 x.i, .int .i64 x.m, .int .i64 x.g, .int .i64 x.w, .int .i64 x.s, .int .i64 x.p, .int .i64 x.q], .int .i64 n] w fun e w' => e = .returned (.int .i64 (missC x n)) ∧ Mod NoBlock w w' := by
  have m0 := (Mod.refl NoBlock w).alloc (.cells #[.int .i64 x.i, .int .i64 x.m, .int .i64 x.g, .int .i64 x.w, .int .i64 x.s, .int .i64 x.p, .int .i64 x.q] 58)
  have M0 := Lib.hid m0
  clear m0
  obtain ⟨a1, a2, a3, a4, -⟩ := hx
  go_enter Try.func38, Try.ntmps38
  go_wp2_with fail
  all_goals (go_ret; exact ⟨ret_int (by unfold missC; omega), M0.out⟩)

/-- What Missing answers. -/
def misC (x : Ctr) (n : Int) : Int × Int := if NumC x ∧ 0 ≤ n ∧ n ≤ 70368744177664 then (missC x n, 0) else (0, 1)
theorem misC_ok {x : Ctr} {n : Int} (h : NumC x) (h0 : 0 ≤ n) (h1 : n ≤ 70368744177664) : misC x n = (missC x n, 0) := if_pos ⟨h, h0, h1⟩
theorem misC_bad {x : Ctr} {n : Int} (h : ¬ (NumC x ∧ 0 ≤ n ∧ n ≤ 70368744177664)) : misC x n = (0, 1) := if_neg h

set_option maxRecDepth 100000 in
set_option maxHeartbeats 3200000 in
theorem mis_any (x : Ctr) (n : Int) (w : World) : Calls Try.prog 23 #[.agg #[.int .i64 x.i, .int .i64 x.m, .int .i64 x.g, .int .i64 x.w, .int .i64 x.s, .int .i64 x.p, .int .i64 x.q], .int .i64 n] w fun e w' => e = .returned (.tuple #[.int .i64 (misC x n).1, .int .i64 (misC x n).2]) ∧ Mod NoBlock w w' := by
  have m0 := (Mod.refl NoBlock w).alloc (.cells #[.int .i64 x.i, .int .i64 x.m, .int .i64 x.g, .int .i64 x.w, .int .i64 x.s, .int .i64 x.p, .int .i64 x.q] 58)
  have B0 := Lib.hid (rowIs_new w #[.int .i64 x.i, .int .i64 x.m, .int .i64 x.g, .int .i64 x.w, .int .i64 x.s, .int .i64 x.p, .int .i64 x.q] 58)
  have M0 := Lib.hid m0
  clear m0
  by_cases hx : NumC x
  case neg =>
    have Hn := Lib.hid (numC_no hx)
    rw [misC_bad fun h => hx h.1]
    have Hc := Lib.hid (numbers_any x (w.alloc (.cells #[.int .i64 x.i, .int .i64 x.m, .int .i64 x.g, .int .i64 x.w, .int .i64 x.s, .int .i64 x.p, .int .i64 x.q] 58)))
    rw [Hn.out] at Hc
    clear hx
    go_enter Try.func23, Try.ntmps23
    go_wp2_with (go_at_call 42; refine Hc.out.mono ?_; rintro e w1 ⟨rfl, m⟩)
    have M := Lib.hid (M0.out.trans m)
    clear m
    go_wp2_with fail
    go_ret2
    exact ⟨rfl, M.out⟩
  have Hc := Lib.hid (numbers_any x (w.alloc (.cells #[.int .i64 x.i, .int .i64 x.m, .int .i64 x.g, .int .i64 x.w, .int .i64 x.s, .int .i64 x.p, .int .i64 x.q] 58)))
  rw [numC_of hx] at Hc
  by_cases hn : 0 ≤ n ∧ n ≤ 70368744177664
  case neg =>
    rw [misC_bad fun h => hn h.2]
    by_cases h0 : n < 0
    · clear hn hx
      go_enter Try.func23, Try.ntmps23
      go_wp2_with (go_at_call 42; refine Hc.out.mono ?_; rintro e w1 ⟨rfl, m⟩)
      have M := Lib.hid (M0.out.trans m)
      clear m
      go_wp2_with fail
      go_ret2
      exact ⟨rfl, M.out⟩
    · have h1 : 70368744177664 < n := by omega
      clear hn hx
      go_enter Try.func23, Try.ntmps23
      go_wp2_with (go_at_call 42; refine Hc.out.mono ?_; rintro e w1 ⟨rfl, m⟩)
      have M := Lib.hid (M0.out.trans m)
      clear m
      go_wp2_with fail
      go_ret2
      exact ⟨rfl, M.out⟩
  obtain ⟨h0, h1⟩ := hn
  rw [misC_ok hx h0 h1]
  have Hm := Lib.hid fun w' => missing_any x n w' hx h0 h1
  clear hx
  go_enter Try.func23, Try.ntmps23
  go_upto_region 1 with fail
  generalize w.alloc (.cells #[.int .i64 x.i, .int .i64 x.m, .int .i64 x.g, .int .i64 x.w, .int .i64 x.s, .int .i64 x.p, .int .i64 x.q] 58) = w0 at B0 M0 Hc ⊢
  have c0 : w0.cell? ⟨w.heap.size, 0, none⟩ = some (.int .i64 x.i) := B0.out.cell (i := 0) (by show 0 < 7; omega)
  have c1 : w0.cell? ⟨w.heap.size, 1, none⟩ = some (.int .i64 x.m) := B0.out.cell (i := 1) (by show 1 < 7; omega)
  have c2 : w0.cell? ⟨w.heap.size, 2, none⟩ = some (.int .i64 x.g) := B0.out.cell (i := 2) (by show 2 < 7; omega)
  have c3 : w0.cell? ⟨w.heap.size, 3, none⟩ = some (.int .i64 x.w) := B0.out.cell (i := 3) (by show 3 < 7; omega)
  have c4 : w0.cell? ⟨w.heap.size, 4, none⟩ = some (.int .i64 x.s) := B0.out.cell (i := 4) (by show 4 < 7; omega)
  have c5 : w0.cell? ⟨w.heap.size, 5, none⟩ = some (.int .i64 x.p) := B0.out.cell (i := 5) (by show 5 < 7; omega)
  have c6 : w0.cell? ⟨w.heap.size, 6, none⟩ = some (.int .i64 x.q) := B0.out.cell (i := 6) (by show 6 < 7; omega)
  go_upto_region 3 with (go_at_call 42; refine Hc.out.mono ?_; rintro e w1 ⟨rfl, m⟩)
  have d0 := m.cell c0 id
  have d1 := m.cell c1 id
  have d2 := m.cell c2 id
  have d3 := m.cell c3 id
  have d4 := m.cell c4 id
  have d5 := m.cell c5 id
  have d6 := m.cell c6 id
  have M := Lib.hid (M0.out.trans m)
  clear m c0 c1 c2 c3 c4 c5 c6 Hc
  go_wp2_with (go_at_call 38; refine (Hm.out _).mono ?_; rintro e w2 ⟨rfl, m⟩)
  have M2 := Lib.hid (M.out.trans m)
  clear m
  go_wp2_with fail
  go_ret2
  exact ⟨rfl, M2.out⟩

end Go.Proofs.Ytnpdkpbecmpdbaa
