/-
  jet: checks, need.
-/
import Derived.Test.YtnpdkpbecmpdbaaJa
set_option linter.unusedVariables false
set_option linter.unusedSimpArgs false
namespace Go.Proofs.Ytnpdkpbecmpdbaa
open Go.RowKit

structure ValOk (D H R : Int) : Prop where
  d0 : 0 ≤ D
  d1 : D ≤ 1000
  h0 : 1 ≤ H
  h1 : H ≤ 100
  r0 : 0 ≤ R
  r1 : R ≤ 100

set_option maxHeartbeats 800000 in
theorem refVal_ok (D H R : Int) (w : World) (h : ValOk D H R) :
    Calls Try.prog 6 #[.agg #[.int .i64 D, .int .i64 H, .int .i64 R]] w fun e w' => e = .returned (.int .i64 0) ∧ Mod NoBlock w w' := by
  obtain ⟨h1, h2, h3, h4, h5, h6⟩ := h
  have g1 : ¬ D < 0 := by omega
  have g2 : ¬ 1000 < D := by omega
  have g3 : ¬ H < 1 := by omega
  have g4 : ¬ 100 < H := by omega
  have g5 : ¬ R < 0 := by omega
  have g6 : ¬ 100 < R := by omega
  go_enter Try.func6, Try.ntmps6
  go_wp2
  go_ret
  exact ⟨rfl, (Mod.refl _ _).alloc _⟩
set_option maxHeartbeats 1600000 in
theorem refVal_bad (D H R : Int) (w : World) (h : ¬ ValOk D H R) :
    Calls Try.prog 6 #[.agg #[.int .i64 D, .int .i64 H, .int .i64 R]] w fun e w' => e = .returned (.int .i64 1) ∧ Mod NoBlock w w' := by
  have h : D < 0 ∨ (¬ D < 0 ∧ 1000 < D) ∨ (¬ D < 0 ∧ ¬ 1000 < D ∧ H < 1) ∨ (¬ D < 0 ∧ ¬ 1000 < D ∧ ¬ H < 1 ∧ 100 < H) ∨ (¬ D < 0 ∧ ¬ 1000 < D ∧ ¬ H < 1 ∧ ¬ 100 < H ∧ R < 0) ∨ (¬ D < 0 ∧ ¬ 1000 < D ∧ ¬ H < 1 ∧ ¬ 100 < H ∧ ¬ R < 0 ∧ 100 < R) := by
    by_cases hh : 0 ≤ D ∧ D ≤ 1000 ∧ 1 ≤ H ∧ H ≤ 100 ∧ 0 ≤ R ∧ R ≤ 100
    · exact absurd ⟨hh.1, hh.2.1, hh.2.2.1, hh.2.2.2.1, hh.2.2.2.2.1, hh.2.2.2.2.2⟩ h
    · omega
  rcases h with q1 | ⟨q1, q2⟩ | ⟨q1, q2, q3⟩ | ⟨q1, q2, q3, q4⟩ | ⟨q1, q2, q3, q4, q5⟩ | ⟨q1, q2, q3, q4, q5, q6⟩
  all_goals
    go_enter Try.func6, Try.ntmps6
    go_wp2
    go_ret
    exact ⟨rfl, (Mod.refl _ _).alloc _⟩
set_option maxHeartbeats 800000 in
theorem jetVal_ok (D H R : Int) (w : World) (h : ValOk D H R) :
    Calls Try.prog 32 #[.agg #[.int .i64 D, .int .i64 H, .int .i64 R]] w fun e w' => e = .returned (.int .i64 0) ∧ Mod NoBlock w w' := by
  obtain ⟨h1, h2, h3, h4, h5, h6⟩ := h
  have g1 : ¬ D < 0 := by omega
  have g2 : ¬ 1000 < D := by omega
  have g3 : ¬ H < 1 := by omega
  have g4 : ¬ 100 < H := by omega
  have g5 : ¬ R < 0 := by omega
  have g6 : ¬ 100 < R := by omega
  go_enter Try.func32, Try.ntmps32
  go_wp2
  go_ret
  exact ⟨rfl, (Mod.refl _ _).alloc _⟩

/-- Steps in order. -/
structure StepsOk (xs : List Int) : Prop where
  len : xs.length ≤ 512
  rng : ∀ k, k < xs.length → 0 ≤ ix xs k ∧ ix xs k ≤ 1048576
  ord : ∀ k, k + 1 < xs.length → ix xs k ≤ ix xs (k + 1)

set_option maxHeartbeats 1600000 in
theorem jetCheck_ok (D H R : Int) (a : Option Addr) (c : Nat) (xs : List Int) (E : Nat → Prop) (w : World) (h : ValOk D H R) (hx : Ints E w a xs) (hs : StepsOk xs) :
    Calls Try.prog 29 #[.agg #[.int .i64 D, .int .i64 H, .int .i64 R], .slice a xs.length c] w fun e w' => e = .returned (.int .i64 0) ∧ Mod NoBlock w w' := by
  have m0 := (Mod.refl NoBlock w).alloc (.cells #[.int .i64 D, .int .i64 H, .int .i64 R] 26)
  have HX := Lib.hid (hx.frame m0)
  have M := Lib.hid m0
  have HV := Lib.hid h
  have HS := Lib.hid hs
  have l5 : (xs.length : Int) ≤ 512 := by have := hs.len; omega
  clear hx m0 h hs
  go_enter Try.func29, Try.ntmps29
  go_wp2_with fail
  generalize w.alloc (.cells #[.int .i64 D, .int .i64 H, .int .i64 R] 26) = w0 at HX M ⊢
  refine (jetVal_ok D H R _ HV.out).mono ?_
  rintro e w1 ⟨rfl, m1⟩
  replace M := Lib.hid (M.out.trans m1)
  replace HX := Lib.hid (HX.out.frame m1)
  clear m1
  obtain ⟨_, b, off, ha, hcl⟩ := HX.out.open
  have Ha := Lib.hid ha
  have Hcl := Lib.hid hcl
  clear ha hcl
  go_wp2
  go_loopw [6, 7, 18] (fun u v i wr => ∃ k : Nat, k ≤ xs.length ∧ i = .int .i64 k ∧ ∃ n, wr = w1.drewN n) (fun _ _ i _ => xs.length - (intOf i).toNat)
  case atStart => exact ⟨0, by omega, rfl, 0, rfl⟩
  case round =>
    obtain ⟨k, hk, rfl, nd, rfl⟩ := hrel
    by_cases hlt : k < xs.length
    · have h1 := Hcl.out k hlt
      obtain rfl := Ha.out (by intro e; subst e; simp at hlt)
      obtain ⟨x0, x1⟩ := HS.out.rng k hlt
      rcases Nat.eq_zero_or_pos k with hk0 | hk0
      · subst hk0
        rw [Nat.add_zero] at h1
        generalize ix xs 0 = x at h1 x0 x1
        have g1 : ¬ x < 0 := by omega
        have g2 : ¬ 1048576 < x := by omega
        go_wp2
        exact ⟨⟨1, by omega, by go_num, _, rfl⟩, by simp [intOf]; omega⟩
      · obtain ⟨j, rfl⟩ : ∃ j, k = j + 1 := ⟨k - 1, by omega⟩
        have h2 := Hcl.out j (by omega)
        have ho := HS.out.ord j hlt
        generalize ix xs (j + 1) = x at h1 x0 x1 ho
        generalize ix xs j = y at h2 ho
        have g1 : ¬ x < 0 := by omega
        have g2 : ¬ 1048576 < x := by omega
        have g3 : ¬ x < y := by omega
        have j0 : (0 : Int) ≤ (j : Int) := by omega
        have jx : (j : Int) + 1 < xs.length := by omega
        have jx2 : (j : Int) < xs.length := by omega
        go_wp2
        exact ⟨⟨j + 2, by omega, by go_num, _, rfl⟩, by simp [intOf]; omega⟩
    · go_wp2
      go_ret
      exact ⟨rfl, M.out.drewN _⟩

set_option maxHeartbeats 800000 in
theorem need_any (D H R x : Int) (w : World) (h : ValOk D H R) (x0 : 0 ≤ x) (x1 : x ≤ 1048576) :
    Calls Try.prog 30 #[.agg #[.int .i64 D, .int .i64 H, .int .i64 R], .int .i64 x] w fun e w' => e = .returned (.agg #[.int .i64 (x + D), .int .i64 (x + D + H)]) ∧ Mod NoBlock w w' := by
  obtain ⟨h1, h2, h3, h4, h5, h6⟩ := h
  go_enter Try.func30, Try.ntmps30
  go_wp2
  have hr := rowIs_new (w.alloc (.cells #[.int .i64 D, .int .i64 H, .int .i64 R] 26)) #[.int .i64 (x + D), .int .i64 (x + D + H)] 69
  rw [World.size_alloc] at hr
  have hm : Mod NoBlock w ((w.alloc (.cells #[.int .i64 D, .int .i64 H, .int .i64 R] 26)).alloc (.cells #[.int .i64 (x + D), .int .i64 (x + D + H)] 69)) := ((Mod.refl _ _).alloc _).alloc _
  generalize (w.alloc (.cells #[.int .i64 D, .int .i64 H, .int .i64 R] 26)).alloc (.cells #[.int .i64 (x + D), .int .i64 (x + D + H)] 69) = W at hr hm ⊢
  have t0 : W.cell? ⟨w.heap.size + 1, 0, none⟩ = some (.int .i64 (x + D)) := hr.cell (i := 0) (by simp)
  have t1 : W.cell? ⟨w.heap.size + 1, 1, none⟩ = some (.int .i64 (x + D + H)) := hr.cell (i := 1) (by simp)
  exact bodyPost_ret (v := .agg #[.int .i64 (x + D), .int .i64 (x + D + H)]) (by simp [results, Try.results30, go_sem, t0, t1]) rfl ⟨rfl, hm⟩

end Go.Proofs.Ytnpdkpbecmpdbaa
