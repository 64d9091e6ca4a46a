/-
  match: the code's total.
-/
import Derived.Test.YtnpdkpbecmpdbaaHv
set_option linter.unusedVariables false
set_option linter.unusedSimpArgs false
namespace Go.Proofs.Ytnpdkpbecmpdbaa
open Go.RowKit

/-- Costs of a table, counted from 0. -/
def TabOk (T : Nat → Nat → Int) (n K : Nat) : Prop := ∀ r, r < n → ∀ j, j < K → 0 ≤ T r j ∧ T r j ≤ far
theorem TabOk.costOk {T : Nat → Nat → Int} {n K : Nat} (h : TabOk T n K) : CostOk (fun r j => T (r - 1) (j - 1)) n K := fun r r1 rn j j1 jK => h (r - 1) (by omega) (j - 1) (by omega)

/-- The sum of the first columns is small. -/
theorem colSum {T : Nat → Nat → Int} {n K : Nat} {row : Nat → Nat} (h : TabOk T n K) (hr : ∀ j, 1 ≤ j → j ≤ K → row j ≤ n) : ∀ k, k ≤ K → 0 ≤ sumR k (colCost T row) ∧ sumR k (colCost T row) ≤ far * (k : Int)
  | 0, _ => ⟨Int.le_refl _, by simp [sumR]⟩
  | k + 1, hk => by
    obtain ⟨h1, h2⟩ := colSum h hr k (by omega)
    have h3 : 0 ≤ colCost T row k ∧ colCost T row k ≤ far := by
      unfold colCost
      split
      · exact ⟨Int.le_refl _, by decide⟩
      · have := hr (k + 1) (by omega) hk
        exact h _ (by omega) _ (by omega)
    unfold sumR
    simp only [far] at *
    omega

set_option maxRecDepth 100000 in
set_option maxHeartbeats 6400000 in
theorem total_any {w : World} {ba oa ca n K : Nat} {T : Nat → Nat → Int} {ra ro rc : Nat → Nat} (hT : Tab (fun b => b < w.heap.size) w ba oa n K T ra ro rc)
    (hc : TabOk T n K) (hnK : n ≤ K) (hK : K ≤ 100) (hn0 : n = 0 → K = 0) :
    Calls Try.prog 58 #[.slice (some ⟨ba, oa, none⟩) n ca] w fun e w' => ∃ t, e = .returned (.int .i64 t) ∧ LeastIs T n K t ∧ Mod NoBlock w w' := by
  have HT := Lib.hid hT
  have HC := Lib.hid hc
  have Hs := Lib.hid (solve_any (ca := ca) (c := fun r j => T (r - 1) (j - 1)) hT (fun _ _ => rfl) hc.costOk hnK hK hn0)
  clear hT hc
  go_enter Try.func58, Try.ntmps58
  go_wp2_with (go_at_call 57; refine Hs.out.mono ?_; rintro e w1 ⟨bu, bv, br, bf, g, n1, m, u, v, row, fr, rfl, m3, m4, m1, m2, hd, _, hss⟩)
  have H := Lib.hid hss
  have HL := Lib.hid hd.least
  have HB := Lib.hid (fun k hk => colSum HC.out hd.le k hk)
  have Hle := Lib.hid hd.le
  clear hss hd Hs
  have b3 := H.out.b3
  go_loopw [4, 5] (fun s j wr => ∃ k : Nat, k ≤ K ∧ j = .int .i64 ((k : Int) + 1) ∧ s = .int .i64 (sumR k (colCost T row)) ∧ wr = w1) (fun _ j _ => K + 1 - (intOf j).toNat)
  case atStart => exact ⟨0, by omega, rfl, rfl, rfl⟩
  case round =>
    obtain ⟨k, hk, rfl, rfl, rfl⟩ := hrel
    by_cases hlt : k < K
    · have j1 : (k : Int) + 1 < (m : Int) := by omega
      have c3 := H.out.r4.rowAt (k := k + 1) (by omega)
      have hr := Hle.out (k + 1) (by omega) (by omega)
      obtain ⟨s0, s1⟩ := HB.out k hk
      by_cases h0 : row (k + 1) = 0
      · rw [h0] at c3
        have Hs : Hid (sumR (k + 1) (colCost T row) = sumR k (colCost T row)) := Lib.hid (by show _ + colCost T row k = _; unfold colCost; rw [if_pos h0]; omega)
        clear h0
        go_wp2_with fail
        exact ⟨⟨k + 1, by omega, by go_num, by rw [Hs.out], trivial⟩, by simp [intOf]; omega⟩
      · obtain ⟨r0, hr0⟩ : ∃ r0, row (k + 1) = r0 + 1 := ⟨row (k + 1) - 1, by omega⟩
        have Hs : Hid (sumR (k + 1) (colCost T row) = sumR k (colCost T row) + T r0 k) := Lib.hid (by show _ + colCost T row k = _; unfold colCost; rw [if_neg h0, hr0]; rfl)
        rw [hr0, Int.natCast_add, Int.natCast_one] at c3
        rw [hr0] at hr
        have d0 := H.out.mod.cell (HT.out.rows r0 (by omega)) id
        have d1 := H.out.mod.cell (HT.out.cells r0 (by omega) k hlt) id
        obtain ⟨x0, x1⟩ := HC.out r0 (by omega) k hlt
        clear h0 hr0
        simp only [far] at s1 x1
        have k1 : (k : Int) < (K : Int) := by omega
        have r1 : (r0 : Int) < (n : Int) := by omega
        generalize T r0 k = x at d1 x0 x1 Hs
        generalize sumR k (colCost T row) = y at s0 s1 Hs ⊢
        go_wp2_with fail
        exact ⟨⟨k + 1, by omega, by go_num, by rw [Hs.out], trivial⟩, by simp [intOf]; omega⟩
    · obtain rfl : k = K := by omega
      obtain ⟨t, t1, t2, t3⟩ := HL.out
      have j1 : ¬ (k : Int) + 1 < (m : Int) := by omega
      go_wp2_with fail
      go_ret
      exact ⟨t, rfl, t1, H.out.mod⟩

end Go.Proofs.Ytnpdkpbecmpdbaa
