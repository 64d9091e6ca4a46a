/-
  contract: Settle, of the code and of the reference.
-/
import Derived.Test.YtnacoglfhhenhaaKb
import Derived.Test.YtnacoglfhhenhaaN1
set_option linter.unusedVariables false
set_option linter.unusedSimpArgs false
namespace Go.Proofs.Ytnacoglfhhenhaa
open Go.RowKit

theorem upHalf {ng : Bool} {Q R : Nat} : upB 2 ng Q R 1000000 = decide (1000000 ≤ 2 * R) := upB2 _ _ _ _

theorem scale_half {g p : Int} (h0 : 0 ≤ g) (h1 : g ≤ 2147483648) (h2 : 0 ≤ p) (h3 : p ≤ 1000000) :
    ∃ z, scaleN g p 1000000 2 = (z, 0) ∧ z = (g * p + 500000) / 1000000 ∧ 0 ≤ z ∧ z ≤ 2147483648 := by
  have hgood : goodN g p 1000000 2 = true := by
    simp only [goodN, inB, Bool.and_eq_true, decide_eq_true_eq]
    omega
  obtain ⟨G, rfl⟩ : ∃ G : Nat, g = G := ⟨g.toNat, by omega⟩
  obtain ⟨P, rfl⟩ : ∃ P : Nat, p = P := ⟨p.toNat, by omega⟩
  rw [scaleN_ok hgood]
  unfold quoN
  have hneg : negB (G : Int) (P : Int) 1000000 = false := by
    unfold negB
    rw [decide_eq_false (show ¬ (G : Int) < 0 by omega), decide_eq_false (show ¬ (P : Int) < 0 by omega)]
    rfl
  rw [hneg, show (1000000 : Int).natAbs = 1000000 from rfl, upHalf, Int.natAbs_natCast, Int.natAbs_natCast]
  have hle : G * P ≤ 2147483648 * 1000000 := Nat.mul_le_mul (by omega) (by omega)
  rw [← Int.natCast_mul]
  obtain ⟨A, hA⟩ : ∃ A, G * P = A := ⟨_, rfl⟩
  rw [hA] at hle ⊢
  obtain ⟨u, hu⟩ : ∃ u : Nat, (if decide (1000000 ≤ 2 * (A % 1000000)) = true then 1 else 0) = u := ⟨_, rfl⟩
  have hu2 : (1000000 ≤ 2 * (A % 1000000) ∧ u = 1) ∨ (¬ 1000000 ≤ 2 * (A % 1000000) ∧ u = 0) := by
    by_cases h : 1000000 ≤ 2 * (A % 1000000)
    · exact .inl ⟨h, by rw [← hu, if_pos (decide_eq_true h)]⟩
    · exact .inr ⟨h, by rw [← hu, if_neg (by simpa using h)]⟩
  rw [hu]
  have hs : signN false (A / 1000000 + u) = ((A / 1000000 + u : Nat) : Int) := rfl
  rw [hs]
  refine ⟨_, chkN_ok (inB_true.2 (by omega)), by omega, by omega, by omega⟩

theorem scale_to {g p z : Int} (h : scaleN g p 1000000 2 = (z, 0)) (w : World) : Calls Try.prog 39 #[.int .i64 g, .int .i64 p, .int .i64 1000000, .int .i64 2] w fun e w' => e = .returned (.tuple #[.int .i64 z, .int .i64 0]) ∧ Mod NoBlock w w' := by
  have := numScale_any g p 1000000 2 w
  rwa [h] at this

/-- What Settle answers. -/
def setC (x : Ctr) (n : Int) : Int × Int := if NumC x ∧ 0 ≤ n ∧ n ≤ 70368744177664 then ((min n (x.w + x.s) * x.p + 500000) / 1000000 - (missC x n * x.q + 500000) / 1000000, 0) else (0, 1)

theorem missC_bd {x : Ctr} {n : Int} (h : NumC x) (h0 : 0 ≤ n) : 0 ≤ missC x n ∧ missC x n ≤ 1073741824 := by
  obtain ⟨a1, a2, a3, a4, -⟩ := h
  unfold missC
  omega

set_option maxRecDepth 100000 in
set_option maxHeartbeats 6400000 in
theorem settle_any (x : Ctr) (n : Int) (w : World) : Calls Try.prog 21 #[.agg #[.int .i64 x.i, .int .i64 x.m, .int .i64 x.g, .int .i64 x.w, .int .i64 x.s, .int .i64 x.p, .int .i64 x.q], .int .i64 n] w fun e w' => e = .returned (.tuple #[.int .i64 (setC x n).1, .int .i64 (setC x n).2]) ∧ Mod NoBlock w w' := by
  have m0 := (Mod.refl NoBlock w).alloc (.cells #[.int .i64 x.i, .int .i64 x.m, .int .i64 x.g, .int .i64 x.w, .int .i64 x.s, .int .i64 x.p, .int .i64 x.q] 28)
  have B0 := Lib.hid (rowIs_new w #[.int .i64 x.i, .int .i64 x.m, .int .i64 x.g, .int .i64 x.w, .int .i64 x.s, .int .i64 x.p, .int .i64 x.q] 28)
  have M0 := Lib.hid m0
  clear m0
  by_cases hx : NumC x ∧ 0 ≤ n ∧ n ≤ 70368744177664
  case neg =>
    have hc := mis_any x n (w.alloc (.cells #[.int .i64 x.i, .int .i64 x.m, .int .i64 x.g, .int .i64 x.w, .int .i64 x.s, .int .i64 x.p, .int .i64 x.q] 28))
    rw [misC_bad hx] at hc
    have Hc := Lib.hid hc
    rw [show setC x n = (0, 1) from if_neg hx]
    clear hx hc
    go_enter Try.func21, Try.ntmps21
    go_wp2_with (go_at_call 19; refine Hc.out.mono ?_; rintro e w1 ⟨rfl, m⟩)
    have M := Lib.hid (M0.out.trans m)
    clear m
    go_wp2_with fail
    go_ret2
    exact ⟨rfl, M.out⟩
  rw [show setC x n = _ from if_pos hx]
  have hc := mis_any x n (w.alloc (.cells #[.int .i64 x.i, .int .i64 x.m, .int .i64 x.g, .int .i64 x.w, .int .i64 x.s, .int .i64 x.p, .int .i64 x.q] 28))
  rw [misC_ok hx.1 hx.2.1 hx.2.2] at hc
  obtain ⟨b0, b1⟩ := missC_bd hx.1 hx.2.1
  obtain ⟨⟨a1, a2, a3, a4, a5, a6, a7, a8⟩, h0, h1⟩ := hx
  obtain ⟨ms, hms⟩ : ∃ ms, missC x n = ms := ⟨_, rfl⟩
  rw [hms] at hc b0 b1 ⊢
  have Hc := Lib.hid hc
  obtain ⟨mn, hmn⟩ : ∃ mn, min n (x.w + x.s) = mn := ⟨_, rfl⟩
  rw [hmn]
  have hmn2 : (n ≤ x.w + x.s ∧ mn = n) ∨ (x.w + x.s < n ∧ mn = x.w + x.s) := by omega
  have c0 : 0 ≤ mn := by omega
  have c1 : mn ≤ 2147483648 := by omega
  obtain ⟨z1, hz1, ez1, z10, z11⟩ := scale_half c0 c1 a5 a6
  obtain ⟨z2, hz2, ez2, z20, z21⟩ := scale_half b0 (by omega) a7 a8
  rw [← ez1, ← ez2]
  have Hs1 := Lib.hid fun w' => scale_to hz1 w'
  have Hs2 := Lib.hid fun w' => scale_to hz2 w'
  clear hc hms ez1 ez2 hz1 hz2 hmn2
  go_enter Try.func21, Try.ntmps21
  go_upto_region 1 with fail
  generalize w.alloc (.cells #[.int .i64 x.i, .int .i64 x.m, .int .i64 x.g, .int .i64 x.w, .int .i64 x.s, .int .i64 x.p, .int .i64 x.q] 28) = w0 at B0 M0 Hc ⊢
  have c0' : w0.cell? ⟨w.heap.size, 0, none⟩ = some (.int .i64 x.i) := B0.out.cell (i := 0) (by show 0 < 7; omega)
  have c1' : w0.cell? ⟨w.heap.size, 1, none⟩ = some (.int .i64 x.m) := B0.out.cell (i := 1) (by show 1 < 7; omega)
  have c2' : w0.cell? ⟨w.heap.size, 2, none⟩ = some (.int .i64 x.g) := B0.out.cell (i := 2) (by show 2 < 7; omega)
  have c3' : w0.cell? ⟨w.heap.size, 3, none⟩ = some (.int .i64 x.w) := B0.out.cell (i := 3) (by show 3 < 7; omega)
  have c4' : w0.cell? ⟨w.heap.size, 4, none⟩ = some (.int .i64 x.s) := B0.out.cell (i := 4) (by show 4 < 7; omega)
  have c5' : w0.cell? ⟨w.heap.size, 5, none⟩ = some (.int .i64 x.p) := B0.out.cell (i := 5) (by show 5 < 7; omega)
  have c6' : w0.cell? ⟨w.heap.size, 6, none⟩ = some (.int .i64 x.q) := B0.out.cell (i := 6) (by show 6 < 7; omega)
  go_upto_region 4 with (go_at_call 19; refine Hc.out.mono ?_; rintro e w1 ⟨rfl, m⟩)
  have d3 := m.cell c3' id
  have d4 := m.cell c4' id
  have d5 := m.cell c5' id
  have d6 := m.cell c6' id
  have M := Lib.hid (M0.out.trans m)
  clear m c0' c1' c2' c3' c4' c5' c6' Hc
  have wz : IntKind.i64.wrap (z1 - z2) = z1 - z2 := IntWalk.i64_in _ (by omega)
  have ws : IntKind.i64.wrap (x.w + x.s) = x.w + x.s := IntWalk.i64_in _ (by omega)
  go_upto_region 5 with (go_at_call 39; refine (Hs1.out _).mono ?_; rintro e w2 ⟨rfl, m⟩)
  have d6' := m.cell d6 id
  have M2 := Lib.hid (M.out.trans m)
  clear m d3 d4 d5 d6
  go_wp2_with (go_at_call 39; refine (Hs2.out _).mono ?_; rintro e w3 ⟨rfl, m⟩)
  have M3 := Lib.hid (M2.out.trans m)
  clear m d6'
  go_wp2_with fail
  go_ret2
  exact ⟨rfl, M3.out⟩

set_option maxRecDepth 100000 in
set_option maxHeartbeats 6400000 in
theorem refSettle_any (x : Ctr) (n : Int) (w : World) : Calls Try.prog 22 #[.agg #[.int .i64 x.i, .int .i64 x.m, .int .i64 x.g, .int .i64 x.w, .int .i64 x.s, .int .i64 x.p, .int .i64 x.q], .int .i64 n] w fun e w' => e = .returned (.tuple #[.int .i64 (setC x n).1, .int .i64 (setC x n).2]) ∧ Mod NoBlock w w' := by
  have m0 := (Mod.refl NoBlock w).alloc (.cells #[.int .i64 x.i, .int .i64 x.m, .int .i64 x.g, .int .i64 x.w, .int .i64 x.s, .int .i64 x.p, .int .i64 x.q] 28)
  have B0 := Lib.hid (rowIs_new w #[.int .i64 x.i, .int .i64 x.m, .int .i64 x.g, .int .i64 x.w, .int .i64 x.s, .int .i64 x.p, .int .i64 x.q] 28)
  have M0 := Lib.hid m0
  clear m0
  by_cases hx : NumC x ∧ 0 ≤ n ∧ n ≤ 70368744177664
  case neg =>
    have hc := refMis_any x n (w.alloc (.cells #[.int .i64 x.i, .int .i64 x.m, .int .i64 x.g, .int .i64 x.w, .int .i64 x.s, .int .i64 x.p, .int .i64 x.q] 28))
    rw [misC_bad hx] at hc
    have Hc := Lib.hid hc
    rw [show setC x n = (0, 1) from if_neg hx]
    clear hx hc
    go_enter Try.func22, Try.ntmps22
    go_wp2_with (go_at_call 20; refine Hc.out.mono ?_; rintro e w1 ⟨rfl, m⟩)
    have M := Lib.hid (M0.out.trans m)
    clear m
    go_wp2_with fail
    go_ret2
    exact ⟨rfl, M.out⟩
  rw [show setC x n = _ from if_pos hx]
  have hc := refMis_any x n (w.alloc (.cells #[.int .i64 x.i, .int .i64 x.m, .int .i64 x.g, .int .i64 x.w, .int .i64 x.s, .int .i64 x.p, .int .i64 x.q] 28))
  rw [misC_ok hx.1 hx.2.1 hx.2.2] at hc
  obtain ⟨b0, b1⟩ := missC_bd hx.1 hx.2.1
  obtain ⟨⟨a1, a2, a3, a4, a5, a6, a7, a8⟩, h0, h1⟩ := hx
  obtain ⟨ms, hms⟩ : ∃ ms, missC x n = ms := ⟨_, rfl⟩
  rw [hms] at hc b0 b1 ⊢
  have Hc := Lib.hid hc
  obtain ⟨mn, hmn⟩ : ∃ mn, min n (x.w + x.s) = mn := ⟨_, rfl⟩
  rw [hmn]
  have hmn2 : (n ≤ x.w + x.s ∧ mn = n) ∨ (x.w + x.s < n ∧ mn = x.w + x.s) := by omega
  have c0 : 0 ≤ mn := by omega
  have c1 : mn ≤ 2147483648 := by omega
  obtain ⟨z1, hz1, ez1, z10, z11⟩ := scale_half c0 c1 a5 a6
  obtain ⟨z2, hz2, ez2, z20, z21⟩ := scale_half b0 (by omega) a7 a8
  rw [← ez1, ← ez2]
  have p1 : 0 ≤ mn * x.p := Int.mul_nonneg c0 a5
  have p2 : mn * x.p ≤ 2147483648 * 1000000 := Int.mul_le_mul c1 a6 a5 (by omega)
  have p3 : 0 ≤ ms * x.q := Int.mul_nonneg b0 a7
  have p4 : ms * x.q ≤ 1073741824 * 1000000 := Int.mul_le_mul b1 a8 a7 (by omega)
  have Ez1 := Lib.hid ez1
  have Ez2 := Lib.hid ez2
  clear hc hms ez1 ez2 hz1 hz2 hmn2
  go_enter Try.func22, Try.ntmps22
  go_upto_region 1 with fail
  generalize w.alloc (.cells #[.int .i64 x.i, .int .i64 x.m, .int .i64 x.g, .int .i64 x.w, .int .i64 x.s, .int .i64 x.p, .int .i64 x.q] 28) = w0 at B0 M0 Hc ⊢
  have c0' : w0.cell? ⟨w.heap.size, 0, none⟩ = some (.int .i64 x.i) := B0.out.cell (i := 0) (by show 0 < 7; omega)
  have c1' : w0.cell? ⟨w.heap.size, 1, none⟩ = some (.int .i64 x.m) := B0.out.cell (i := 1) (by show 1 < 7; omega)
  have c2' : w0.cell? ⟨w.heap.size, 2, none⟩ = some (.int .i64 x.g) := B0.out.cell (i := 2) (by show 2 < 7; omega)
  have c3' : w0.cell? ⟨w.heap.size, 3, none⟩ = some (.int .i64 x.w) := B0.out.cell (i := 3) (by show 3 < 7; omega)
  have c4' : w0.cell? ⟨w.heap.size, 4, none⟩ = some (.int .i64 x.s) := B0.out.cell (i := 4) (by show 4 < 7; omega)
  have c5' : w0.cell? ⟨w.heap.size, 5, none⟩ = some (.int .i64 x.p) := B0.out.cell (i := 5) (by show 5 < 7; omega)
  have c6' : w0.cell? ⟨w.heap.size, 6, none⟩ = some (.int .i64 x.q) := B0.out.cell (i := 6) (by show 6 < 7; omega)
  go_upto_region 4 with (go_at_call 20; refine Hc.out.mono ?_; rintro e w1 ⟨rfl, m⟩)
  have d3 := m.cell c3' id
  have d4 := m.cell c4' id
  have d5 := m.cell c5' id
  have d6 := m.cell c6' id
  have M := Lib.hid (M0.out.trans m)
  clear m c0' c1' c2' c3' c4' c5' c6' Hc
  have wz : IntKind.i64.wrap (z1 - z2) = z1 - z2 := IntWalk.i64_in _ (by omega)
  have ws : IntKind.i64.wrap (x.w + x.s) = x.w + x.s := IntWalk.i64_in _ (by omega)
  go_wp2_with fail
  go_ret2
  exact ⟨ret_int2 (by rw [Ez1.out, Ez2.out]) rfl, M.out⟩

end Go.Proofs.Ytnacoglfhhenhaa
