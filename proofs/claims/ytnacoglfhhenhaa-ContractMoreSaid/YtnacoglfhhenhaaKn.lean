/-
  contract: the laws ContractSettles and ContractMore walked.
-/
import Derived.Test.YtnacoglfhhenhaaKl
import Derived.Test.YtnacoglfhhenhaaKo
set_option linter.unusedVariables false
set_option linter.unusedSimpArgs false
namespace Go.Proofs.Ytnacoglfhhenhaa
open Go.RowKit

set_option maxRecDepth 100000 in
set_option maxHeartbeats 6400000 in
theorem contractSettles_fin (x : Ctr) (_ : I64 x.i ∧ I64 x.m ∧ I64 x.g ∧ I64 x.w ∧ I64 x.s ∧ I64 x.p ∧ I64 x.q) (n : Int) (_ : I64 n) {w : World} (_ : World) :
    Calls Try.prog 6 #[.agg #[.int .i64 x.i, .int .i64 x.m, .int .i64 x.g, .int .i64 x.w, .int .i64 x.s, .int .i64 x.p, .int .i64 x.q], .int .i64 n] w fun e w' => e = .returned (.bool true) ∧ Mod NoBlock w w' := by
  have m0 := (Mod.refl NoBlock w).alloc (.cells #[.int .i64 x.i, .int .i64 x.m, .int .i64 x.g, .int .i64 x.w, .int .i64 x.s, .int .i64 x.p, .int .i64 x.q] 28)
  have B0 := Lib.hid (rowIs_new w #[.int .i64 x.i, .int .i64 x.m, .int .i64 x.g, .int .i64 x.w, .int .i64 x.s, .int .i64 x.p, .int .i64 x.q] 28)
  have M := Lib.hid m0
  have H1 := Lib.hid fun w' => mis_any x n w'
  have H2 := Lib.hid fun w' => refMis_any x n w'
  have H3 := Lib.hid fun w' => settle_any x n w'
  have H4 := Lib.hid fun w' => refSettle_any x n w'
  generalize misC x n = P at H1 H2
  generalize setC x n = Q at H3 H4
  obtain ⟨p1, p2⟩ := P
  obtain ⟨q1, q2⟩ := Q
  dsimp only at H1 H2 H3 H4
  clear m0
  go_enter Try.func6, Try.ntmps6
  go_upto_region 1 with fail
  generalize w.alloc (.cells #[.int .i64 x.i, .int .i64 x.m, .int .i64 x.g, .int .i64 x.w, .int .i64 x.s, .int .i64 x.p, .int .i64 x.q] 28) = w0 at B0 M ⊢
  generalize w.heap.size = gb at B0 ⊢
  have c0 : w0.cell? ⟨gb, 0, none⟩ = some (.int .i64 x.i) := B0.out.cell (i := 0) (by show 0 < 7; omega)
  have c1 : w0.cell? ⟨gb, 1, none⟩ = some (.int .i64 x.m) := B0.out.cell (i := 1) (by show 1 < 7; omega)
  have c2 : w0.cell? ⟨gb, 2, none⟩ = some (.int .i64 x.g) := B0.out.cell (i := 2) (by show 2 < 7; omega)
  have c3 : w0.cell? ⟨gb, 3, none⟩ = some (.int .i64 x.w) := B0.out.cell (i := 3) (by show 3 < 7; omega)
  have c4 : w0.cell? ⟨gb, 4, none⟩ = some (.int .i64 x.s) := B0.out.cell (i := 4) (by show 4 < 7; omega)
  have c5 : w0.cell? ⟨gb, 5, none⟩ = some (.int .i64 x.p) := B0.out.cell (i := 5) (by show 5 < 7; omega)
  have c6 : w0.cell? ⟨gb, 6, none⟩ = some (.int .i64 x.q) := B0.out.cell (i := 6) (by show 6 < 7; omega)
  go_upto_region 2 with (go_at_call 19; refine (H1.out _).mono ?_; rintro e w1 ⟨rfl, m⟩)
  replace M := Lib.hid (M.out.trans m)
  replace B0 := Lib.hid (B0.out.of_block (m.block _ B0.out.lt id))
  clear m H1 c0 c1 c2 c3 c4 c5 c6
  have c0 : w1.cell? ⟨gb, 0, none⟩ = some (.int .i64 x.i) := B0.out.cell (i := 0) (by show 0 < 7; omega)
  have c1 : w1.cell? ⟨gb, 1, none⟩ = some (.int .i64 x.m) := B0.out.cell (i := 1) (by show 1 < 7; omega)
  have c2 : w1.cell? ⟨gb, 2, none⟩ = some (.int .i64 x.g) := B0.out.cell (i := 2) (by show 2 < 7; omega)
  have c3 : w1.cell? ⟨gb, 3, none⟩ = some (.int .i64 x.w) := B0.out.cell (i := 3) (by show 3 < 7; omega)
  have c4 : w1.cell? ⟨gb, 4, none⟩ = some (.int .i64 x.s) := B0.out.cell (i := 4) (by show 4 < 7; omega)
  have c5 : w1.cell? ⟨gb, 5, none⟩ = some (.int .i64 x.p) := B0.out.cell (i := 5) (by show 5 < 7; omega)
  have c6 : w1.cell? ⟨gb, 6, none⟩ = some (.int .i64 x.q) := B0.out.cell (i := 6) (by show 6 < 7; omega)
  go_upto_region 3 with (go_at_call 20; refine (H2.out _).mono ?_; rintro e w2 ⟨rfl, m⟩)
  replace M := Lib.hid (M.out.trans m)
  replace B0 := Lib.hid (B0.out.of_block (m.block _ B0.out.lt id))
  clear m H2 c0 c1 c2 c3 c4 c5 c6
  have c0 : w2.cell? ⟨gb, 0, none⟩ = some (.int .i64 x.i) := B0.out.cell (i := 0) (by show 0 < 7; omega)
  have c1 : w2.cell? ⟨gb, 1, none⟩ = some (.int .i64 x.m) := B0.out.cell (i := 1) (by show 1 < 7; omega)
  have c2 : w2.cell? ⟨gb, 2, none⟩ = some (.int .i64 x.g) := B0.out.cell (i := 2) (by show 2 < 7; omega)
  have c3 : w2.cell? ⟨gb, 3, none⟩ = some (.int .i64 x.w) := B0.out.cell (i := 3) (by show 3 < 7; omega)
  have c4 : w2.cell? ⟨gb, 4, none⟩ = some (.int .i64 x.s) := B0.out.cell (i := 4) (by show 4 < 7; omega)
  have c5 : w2.cell? ⟨gb, 5, none⟩ = some (.int .i64 x.p) := B0.out.cell (i := 5) (by show 5 < 7; omega)
  have c6 : w2.cell? ⟨gb, 6, none⟩ = some (.int .i64 x.q) := B0.out.cell (i := 6) (by show 6 < 7; omega)
  go_upto_region 4 with (go_at_call 21; refine (H3.out _).mono ?_; rintro e w3 ⟨rfl, m⟩)
  replace M := Lib.hid (M.out.trans m)
  replace B0 := Lib.hid (B0.out.of_block (m.block _ B0.out.lt id))
  clear m H3 c0 c1 c2 c3 c4 c5 c6
  have c0 : w3.cell? ⟨gb, 0, none⟩ = some (.int .i64 x.i) := B0.out.cell (i := 0) (by show 0 < 7; omega)
  have c1 : w3.cell? ⟨gb, 1, none⟩ = some (.int .i64 x.m) := B0.out.cell (i := 1) (by show 1 < 7; omega)
  have c2 : w3.cell? ⟨gb, 2, none⟩ = some (.int .i64 x.g) := B0.out.cell (i := 2) (by show 2 < 7; omega)
  have c3 : w3.cell? ⟨gb, 3, none⟩ = some (.int .i64 x.w) := B0.out.cell (i := 3) (by show 3 < 7; omega)
  have c4 : w3.cell? ⟨gb, 4, none⟩ = some (.int .i64 x.s) := B0.out.cell (i := 4) (by show 4 < 7; omega)
  have c5 : w3.cell? ⟨gb, 5, none⟩ = some (.int .i64 x.p) := B0.out.cell (i := 5) (by show 5 < 7; omega)
  have c6 : w3.cell? ⟨gb, 6, none⟩ = some (.int .i64 x.q) := B0.out.cell (i := 6) (by show 6 < 7; omega)
  go_upto_region 5 with (go_at_call 22; refine (H4.out _).mono ?_; rintro e w4 ⟨rfl, m⟩)
  replace M := Lib.hid (M.out.trans m)
  replace B0 := Lib.hid (B0.out.of_block (m.block _ B0.out.lt id))
  clear m H4 c0 c1 c2 c3 c4 c5 c6
  go_wp2_with fail
  refine (awakeK_any _).mono ?_; rintro e w9 ⟨rfl, m⟩
  have M := Lib.hid (M.out.trans m)
  clear m
  go_wp2_with fail
  go_ret
  exact ⟨rfl, M.out⟩

theorem div_mono {a b : Int} (h : a ≤ b) : (a + 500000) / 1000000 ≤ (b + 500000) / 1000000 := by omega
/-- Whoever delivers more gets no less. -/
theorem set_mono {x : Ctr} {n m : Int} (hx : NumC x) (h0 : 0 ≤ n) (h1 : n ≤ m) (h2 : m ≤ 70368744177664) : (setC x n).1 ≤ (setC x m).1 ∧ missC x m ≤ missC x n := by
  rw [show setC x n = _ from if_pos ⟨hx, h0, by omega⟩, show setC x m = _ from if_pos ⟨hx, by omega, h2⟩]
  obtain ⟨a1, a2, a3, a4, a5, a6, a7, a8⟩ := hx
  have hm : missC x m ≤ missC x n := by unfold missC; omega
  refine ⟨?_, hm⟩
  have e1 : min n (x.w + x.s) * x.p ≤ min m (x.w + x.s) * x.p := Int.mul_le_mul_of_nonneg_right (by omega) a5
  have e2 : missC x m * x.q ≤ missC x n * x.q := Int.mul_le_mul_of_nonneg_right hm a7
  have f1 := div_mono e1
  have f2 := div_mono e2
  show _ - _ ≤ _ - _
  omega

set_option maxRecDepth 100000 in
set_option maxHeartbeats 6400000 in
theorem contractMore_fin (x : Ctr) (hI : I64 x.i ∧ I64 x.m ∧ I64 x.g ∧ I64 x.w ∧ I64 x.s ∧ I64 x.p ∧ I64 x.q) (n : Int) (hn : I64 n) (k : Int) (hk : (Lit.int .u32 k).wf = true) {w : World} (_ : World) :
    Calls Try.prog 8 #[.agg #[.int .i64 x.i, .int .i64 x.m, .int .i64 x.g, .int .i64 x.w, .int .i64 x.s, .int .i64 x.p, .int .i64 x.q], .int .i64 n, .int .u32 k] w fun e w' => e = .returned (.bool true) ∧ Mod NoBlock w w' := by
  have hk2 : 0 ≤ k ∧ k ≤ 4294967295 := by simpa [Lit.wf, IntKind.min, IntKind.max, IntKind.signed, IntKind.bits] using hk
  obtain ⟨k0, k1⟩ := hk2
  have m0 := (Mod.refl NoBlock w).alloc (.cells #[.int .i64 x.i, .int .i64 x.m, .int .i64 x.g, .int .i64 x.w, .int .i64 x.s, .int .i64 x.p, .int .i64 x.q] 28)
  have B0 := Lib.hid (rowIs_new w #[.int .i64 x.i, .int .i64 x.m, .int .i64 x.g, .int .i64 x.w, .int .i64 x.s, .int .i64 x.p, .int .i64 x.q] 28)
  have M := Lib.hid m0
  clear m0 hk hI
  by_cases hx : NumC x ∧ 0 ≤ n ∧ n ≤ 70368744177664
  case neg =>
    have H1 := Lib.hid fun w' => mis_any x n w'
    have H3 := Lib.hid fun w' => settle_any x n w'
    rw [misC_bad hx] at H1
    rw [show setC x n = (0, 1) from if_neg hx] at H3
    dsimp only at H1 H3
    clear hx
    go_enter Try.func8, Try.ntmps8
    go_upto_region 1 with fail
    generalize w.alloc (.cells #[.int .i64 x.i, .int .i64 x.m, .int .i64 x.g, .int .i64 x.w, .int .i64 x.s, .int .i64 x.p, .int .i64 x.q] 28) = w0 at B0 M ⊢
    generalize w.heap.size = gb at B0 ⊢
    have c0 : w0.cell? ⟨gb, 0, none⟩ = some (.int .i64 x.i) := B0.out.cell (i := 0) (by show 0 < 7; omega)
    have c1 : w0.cell? ⟨gb, 1, none⟩ = some (.int .i64 x.m) := B0.out.cell (i := 1) (by show 1 < 7; omega)
    have c2 : w0.cell? ⟨gb, 2, none⟩ = some (.int .i64 x.g) := B0.out.cell (i := 2) (by show 2 < 7; omega)
    have c3 : w0.cell? ⟨gb, 3, none⟩ = some (.int .i64 x.w) := B0.out.cell (i := 3) (by show 3 < 7; omega)
    have c4 : w0.cell? ⟨gb, 4, none⟩ = some (.int .i64 x.s) := B0.out.cell (i := 4) (by show 4 < 7; omega)
    have c5 : w0.cell? ⟨gb, 5, none⟩ = some (.int .i64 x.p) := B0.out.cell (i := 5) (by show 5 < 7; omega)
    have c6 : w0.cell? ⟨gb, 6, none⟩ = some (.int .i64 x.q) := B0.out.cell (i := 6) (by show 6 < 7; omega)
    go_upto_region 2 with (go_at_call 21; refine (H3.out _).mono ?_; rintro e w1 ⟨rfl, m⟩)
    replace M := Lib.hid (M.out.trans m)
    replace B0 := Lib.hid (B0.out.of_block (m.block _ B0.out.lt id))
    clear m H3 c0 c1 c2 c3 c4 c5 c6
    have c0 : w1.cell? ⟨gb, 0, none⟩ = some (.int .i64 x.i) := B0.out.cell (i := 0) (by show 0 < 7; omega)
    have c1 : w1.cell? ⟨gb, 1, none⟩ = some (.int .i64 x.m) := B0.out.cell (i := 1) (by show 1 < 7; omega)
    have c2 : w1.cell? ⟨gb, 2, none⟩ = some (.int .i64 x.g) := B0.out.cell (i := 2) (by show 2 < 7; omega)
    have c3 : w1.cell? ⟨gb, 3, none⟩ = some (.int .i64 x.w) := B0.out.cell (i := 3) (by show 3 < 7; omega)
    have c4 : w1.cell? ⟨gb, 4, none⟩ = some (.int .i64 x.s) := B0.out.cell (i := 4) (by show 4 < 7; omega)
    have c5 : w1.cell? ⟨gb, 5, none⟩ = some (.int .i64 x.p) := B0.out.cell (i := 5) (by show 5 < 7; omega)
    have c6 : w1.cell? ⟨gb, 6, none⟩ = some (.int .i64 x.q) := B0.out.cell (i := 6) (by show 6 < 7; omega)
    go_upto_region 3 with (go_at_call 19; refine (H1.out _).mono ?_; rintro e w2 ⟨rfl, m⟩)
    replace M := Lib.hid (M.out.trans m)
    replace B0 := Lib.hid (B0.out.of_block (m.block _ B0.out.lt id))
    clear m H1 c0 c1 c2 c3 c4 c5 c6
    go_wp2_with fail
    refine (awakeK_any _).mono ?_; rintro e w9 ⟨rfl, m⟩
    have M := Lib.hid (M.out.trans m)
    clear m
    go_wp2_with fail
    go_ret
    exact ⟨rfl, M.out⟩
  obtain ⟨hN, h0, h1⟩ := hx
  have H1 := Lib.hid fun w' => mis_any x n w'
  have H3 := Lib.hid fun w' => settle_any x n w'
  rw [misC_ok hN h0 h1] at H1
  have hset : ∀ n, 0 ≤ n → n ≤ 70368744177664 → setC x n = ((setC x n).1, 0) := fun n h0 h1 => by rw [show setC x n = _ from if_pos ⟨hN, h0, h1⟩]
  rw [hset n h0 h1] at H3
  by_cases hm : n ≤ 70368744177664 - k
  case neg =>
    have hm' : 70368744177664 - k < n := by omega
    generalize missC x n = p1 at H1
    generalize (setC x n).1 = q1 at H3
    dsimp only at H1 H3
    clear hm hN hset
    go_enter Try.func8, Try.ntmps8
    go_upto_region 1 with fail
    generalize w.alloc (.cells #[.int .i64 x.i, .int .i64 x.m, .int .i64 x.g, .int .i64 x.w, .int .i64 x.s, .int .i64 x.p, .int .i64 x.q] 28) = w0 at B0 M ⊢
    generalize w.heap.size = gb at B0 ⊢
    have c0 : w0.cell? ⟨gb, 0, none⟩ = some (.int .i64 x.i) := B0.out.cell (i := 0) (by show 0 < 7; omega)
    have c1 : w0.cell? ⟨gb, 1, none⟩ = some (.int .i64 x.m) := B0.out.cell (i := 1) (by show 1 < 7; omega)
    have c2 : w0.cell? ⟨gb, 2, none⟩ = some (.int .i64 x.g) := B0.out.cell (i := 2) (by show 2 < 7; omega)
    have c3 : w0.cell? ⟨gb, 3, none⟩ = some (.int .i64 x.w) := B0.out.cell (i := 3) (by show 3 < 7; omega)
    have c4 : w0.cell? ⟨gb, 4, none⟩ = some (.int .i64 x.s) := B0.out.cell (i := 4) (by show 4 < 7; omega)
    have c5 : w0.cell? ⟨gb, 5, none⟩ = some (.int .i64 x.p) := B0.out.cell (i := 5) (by show 5 < 7; omega)
    have c6 : w0.cell? ⟨gb, 6, none⟩ = some (.int .i64 x.q) := B0.out.cell (i := 6) (by show 6 < 7; omega)
    go_upto_region 2 with (go_at_call 21; refine (H3.out _).mono ?_; rintro e w1 ⟨rfl, m⟩)
    replace M := Lib.hid (M.out.trans m)
    replace B0 := Lib.hid (B0.out.of_block (m.block _ B0.out.lt id))
    clear m H3 c0 c1 c2 c3 c4 c5 c6
    have c0 : w1.cell? ⟨gb, 0, none⟩ = some (.int .i64 x.i) := B0.out.cell (i := 0) (by show 0 < 7; omega)
    have c1 : w1.cell? ⟨gb, 1, none⟩ = some (.int .i64 x.m) := B0.out.cell (i := 1) (by show 1 < 7; omega)
    have c2 : w1.cell? ⟨gb, 2, none⟩ = some (.int .i64 x.g) := B0.out.cell (i := 2) (by show 2 < 7; omega)
    have c3 : w1.cell? ⟨gb, 3, none⟩ = some (.int .i64 x.w) := B0.out.cell (i := 3) (by show 3 < 7; omega)
    have c4 : w1.cell? ⟨gb, 4, none⟩ = some (.int .i64 x.s) := B0.out.cell (i := 4) (by show 4 < 7; omega)
    have c5 : w1.cell? ⟨gb, 5, none⟩ = some (.int .i64 x.p) := B0.out.cell (i := 5) (by show 5 < 7; omega)
    have c6 : w1.cell? ⟨gb, 6, none⟩ = some (.int .i64 x.q) := B0.out.cell (i := 6) (by show 6 < 7; omega)
    go_upto_region 3 with (go_at_call 19; refine (H1.out _).mono ?_; rintro e w2 ⟨rfl, m⟩)
    replace M := Lib.hid (M.out.trans m)
    replace B0 := Lib.hid (B0.out.of_block (m.block _ B0.out.lt id))
    clear m H1 c0 c1 c2 c3 c4 c5 c6
    have wk : IntKind.i64.wrap k = k := IntWalk.i64_in _ (by omega)
    have wd : IntKind.i64.wrap (70368744177664 - k) = 70368744177664 - k := IntWalk.i64_in _ (by omega)
    go_wp2_with fail
    refine (awakeK_any _).mono ?_; rintro e w9 ⟨rfl, m⟩
    have M := Lib.hid (M.out.trans m)
    clear m
    go_wp2_with fail
    go_ret
    exact ⟨rfl, M.out⟩
  have H5 := Lib.hid fun w' => mis_any x (n + k) w'
  have H6 := Lib.hid fun w' => settle_any x (n + k) w'
  rw [misC_ok hN (by omega) (by omega)] at H5
  rw [hset (n + k) (by omega) (by omega)] at H6
  obtain ⟨g1, g2⟩ := set_mono hN h0 (m := n + k) (by omega) (by omega)
  obtain ⟨b0, b1⟩ := missC_bd hN h0
  have hz : (missC x n = 0) ↔ x.w - x.s ≤ n := by unfold missC; omega
  obtain ⟨a1, a2, a3, a4, -⟩ := hN
  generalize missC x n = p1 at H1 g2 b0 b1 hz
  generalize (setC x n).1 = q1 at H3 g1
  generalize missC x (n + k) = p2 at H5 g2
  generalize (setC x (n + k)).1 = q2 at H6 g1
  dsimp only at H1 H3 H5 H6
  have hzb : (p1 == 0) = decide (x.w - x.s ≤ n) := by
    by_cases h : p1 = 0
    · rw [decide_eq_true (hz.1 h), h]; rfl
    · rw [decide_eq_false (fun h9 => h (hz.2 h9))]; exact beq_eq_false_iff_ne.2 h
  clear hset hz
  go_enter Try.func8, Try.ntmps8
  go_upto_region 1 with fail
  generalize w.alloc (.cells #[.int .i64 x.i, .int .i64 x.m, .int .i64 x.g, .int .i64 x.w, .int .i64 x.s, .int .i64 x.p, .int .i64 x.q] 28) = w0 at B0 M ⊢
  generalize w.heap.size = gb at B0 ⊢
  have wk : IntKind.i64.wrap k = k := IntWalk.i64_in _ (by omega)
  have wd : IntKind.i64.wrap (70368744177664 - k) = 70368744177664 - k := IntWalk.i64_in _ (by omega)
  have wn : IntKind.i64.wrap (n + k) = n + k := IntWalk.i64_in _ (by omega)
  have ws : IntKind.i64.wrap (x.w - x.s) = x.w - x.s := IntWalk.i64_in _ (by omega)
  have hmd : ¬ 70368744177664 - k < n := by omega
  have c0 : w0.cell? ⟨gb, 0, none⟩ = some (.int .i64 x.i) := B0.out.cell (i := 0) (by show 0 < 7; omega)
  have c1 : w0.cell? ⟨gb, 1, none⟩ = some (.int .i64 x.m) := B0.out.cell (i := 1) (by show 1 < 7; omega)
  have c2 : w0.cell? ⟨gb, 2, none⟩ = some (.int .i64 x.g) := B0.out.cell (i := 2) (by show 2 < 7; omega)
  have c3 : w0.cell? ⟨gb, 3, none⟩ = some (.int .i64 x.w) := B0.out.cell (i := 3) (by show 3 < 7; omega)
  have c4 : w0.cell? ⟨gb, 4, none⟩ = some (.int .i64 x.s) := B0.out.cell (i := 4) (by show 4 < 7; omega)
  have c5 : w0.cell? ⟨gb, 5, none⟩ = some (.int .i64 x.p) := B0.out.cell (i := 5) (by show 5 < 7; omega)
  have c6 : w0.cell? ⟨gb, 6, none⟩ = some (.int .i64 x.q) := B0.out.cell (i := 6) (by show 6 < 7; omega)
  go_upto_region 2 with (go_at_call 21; refine (H3.out _).mono ?_; rintro e w1 ⟨rfl, m⟩)
  replace M := Lib.hid (M.out.trans m)
  replace B0 := Lib.hid (B0.out.of_block (m.block _ B0.out.lt id))
  clear m H3 c0 c1 c2 c3 c4 c5 c6
  have c0 : w1.cell? ⟨gb, 0, none⟩ = some (.int .i64 x.i) := B0.out.cell (i := 0) (by show 0 < 7; omega)
  have c1 : w1.cell? ⟨gb, 1, none⟩ = some (.int .i64 x.m) := B0.out.cell (i := 1) (by show 1 < 7; omega)
  have c2 : w1.cell? ⟨gb, 2, none⟩ = some (.int .i64 x.g) := B0.out.cell (i := 2) (by show 2 < 7; omega)
  have c3 : w1.cell? ⟨gb, 3, none⟩ = some (.int .i64 x.w) := B0.out.cell (i := 3) (by show 3 < 7; omega)
  have c4 : w1.cell? ⟨gb, 4, none⟩ = some (.int .i64 x.s) := B0.out.cell (i := 4) (by show 4 < 7; omega)
  have c5 : w1.cell? ⟨gb, 5, none⟩ = some (.int .i64 x.p) := B0.out.cell (i := 5) (by show 5 < 7; omega)
  have c6 : w1.cell? ⟨gb, 6, none⟩ = some (.int .i64 x.q) := B0.out.cell (i := 6) (by show 6 < 7; omega)
  go_upto_region 3 with (go_at_call 19; refine (H1.out _).mono ?_; rintro e w2 ⟨rfl, m⟩)
  replace M := Lib.hid (M.out.trans m)
  replace B0 := Lib.hid (B0.out.of_block (m.block _ B0.out.lt id))
  clear m H1 c0 c1 c2 c3 c4 c5 c6
  have c0 : w2.cell? ⟨gb, 0, none⟩ = some (.int .i64 x.i) := B0.out.cell (i := 0) (by show 0 < 7; omega)
  have c1 : w2.cell? ⟨gb, 1, none⟩ = some (.int .i64 x.m) := B0.out.cell (i := 1) (by show 1 < 7; omega)
  have c2 : w2.cell? ⟨gb, 2, none⟩ = some (.int .i64 x.g) := B0.out.cell (i := 2) (by show 2 < 7; omega)
  have c3 : w2.cell? ⟨gb, 3, none⟩ = some (.int .i64 x.w) := B0.out.cell (i := 3) (by show 3 < 7; omega)
  have c4 : w2.cell? ⟨gb, 4, none⟩ = some (.int .i64 x.s) := B0.out.cell (i := 4) (by show 4 < 7; omega)
  have c5 : w2.cell? ⟨gb, 5, none⟩ = some (.int .i64 x.p) := B0.out.cell (i := 5) (by show 5 < 7; omega)
  have c6 : w2.cell? ⟨gb, 6, none⟩ = some (.int .i64 x.q) := B0.out.cell (i := 6) (by show 6 < 7; omega)
  go_upto_region 6 with (go_at_call 21; refine (H6.out _).mono ?_; rintro e w3 ⟨rfl, m⟩)
  replace M := Lib.hid (M.out.trans m)
  replace B0 := Lib.hid (B0.out.of_block (m.block _ B0.out.lt id))
  clear m H6 c0 c1 c2 c3 c4 c5 c6
  have c0 : w3.cell? ⟨gb, 0, none⟩ = some (.int .i64 x.i) := B0.out.cell (i := 0) (by show 0 < 7; omega)
  have c1 : w3.cell? ⟨gb, 1, none⟩ = some (.int .i64 x.m) := B0.out.cell (i := 1) (by show 1 < 7; omega)
  have c2 : w3.cell? ⟨gb, 2, none⟩ = some (.int .i64 x.g) := B0.out.cell (i := 2) (by show 2 < 7; omega)
  have c3 : w3.cell? ⟨gb, 3, none⟩ = some (.int .i64 x.w) := B0.out.cell (i := 3) (by show 3 < 7; omega)
  have c4 : w3.cell? ⟨gb, 4, none⟩ = some (.int .i64 x.s) := B0.out.cell (i := 4) (by show 4 < 7; omega)
  have c5 : w3.cell? ⟨gb, 5, none⟩ = some (.int .i64 x.p) := B0.out.cell (i := 5) (by show 5 < 7; omega)
  have c6 : w3.cell? ⟨gb, 6, none⟩ = some (.int .i64 x.q) := B0.out.cell (i := 6) (by show 6 < 7; omega)
  go_upto_region 7 with (go_at_call 19; refine (H5.out _).mono ?_; rintro e w4 ⟨rfl, m⟩)
  replace M := Lib.hid (M.out.trans m)
  replace B0 := Lib.hid (B0.out.of_block (m.block _ B0.out.lt id))
  clear m H5 c0 c1 c2 c3 c4 c5 c6
  have c3 : w4.cell? ⟨gb, 3, none⟩ = some (.int .i64 x.w) := B0.out.cell (i := 3) (by show 3 < 7; omega)
  have c4 : w4.cell? ⟨gb, 4, none⟩ = some (.int .i64 x.s) := B0.out.cell (i := 4) (by show 4 < 7; omega)
  go_wp2_with fail
  refine (awakeK_any _).mono ?_; rintro e w9 ⟨rfl, m⟩
  have M := Lib.hid (M.out.trans m)
  clear m c3 c4
  go_wp2_with fail
  go_ret
  exact ⟨rfl, M.out⟩

end Go.Proofs.Ytnacoglfhhenhaa
