/-
  contract: Settle, of the code and of the reference.
-/
import Derived.Test.YtnpdkpbecmpdbaaKb
import Derived.Test.YtnpdkpbecmpdbaaN1
set_option linter.unusedVariables false
set_option linter.unusedSimpArgs false
namespace Go.Proofs.Ytnpdkpbecmpdbaa
open Go.RowKit

theorem upHalf {ng : Bool} {Q R : Nat} : upB 2 ng Q R 1000000 = decide (1000000 ≤ 2 * R) := upB2 _ _ _ _

theorem scale_half {g p : Int} (h0 : 0 ≤ g) (h1 : g ≤ 2147483648) (h2 : 0 ≤ p) (h3 : p ≤ 1000000) :
    ∃ z, scaleN g p 1000000 2 = (z, 0) ∧ z = (g * p + 500000) / 1000000 ∧ 0 ≤ z ∧ z ≤ 2147483648 := by
  have hgood : goodN g p 1000000 2 = true := by
    simp only [goodN, inB, Bool.and_eq_true, decide_eq_true_eq]
    omega
  obtain ⟨G, rfl⟩ : ∃ G : Nat, g = G := ⟨g.toNat, by omega⟩
  obtain ⟨P, rfl⟩ : ∃ P : Nat, p = P := ⟨p.toNat, by omega⟩
  rw [scaleN_ok hgood]
  unfold quoN
  have hneg : negB (G : Int) (P : Int) 1000000 = false := by
    unfold negB
    rw [decide_eq_false (show ¬ (G : Int) < 0 by omega), decide_eq_false (show ¬ (P : Int) < 0 by omega)]
    rfl
  rw [hneg, show (1000000 : Int).natAbs = 1000000 from rfl, upHalf, Int.natAbs_natCast, Int.natAbs_natCast]
  have hle : G * P ≤ 2147483648 * 1000000 := Nat.mul_le_mul (by omega) (by omega)
  rw [← Int.natCast_mul]
  obtain ⟨A, hA⟩ : ∃ A, G * P = A := ⟨_, rfl⟩
  rw [hA] at hle ⊢
  obtain ⟨u, hu⟩ : ∃ u : Nat, (if decide (1000000 ≤ 2 * (A % 1000000)) = true then 1 else 0) = u := ⟨_, rfl⟩
  have hu2 : (1000000 ≤ 2 * (A % 1000000) ∧ u = 1) ∨ (¬ 1000000 ≤ 2 * (A % 1000000) ∧ u = 0) := by
    by_cases h : 1000000 ≤ 2 * (A % 1000000)
    · exact .inl ⟨h, by rw [← hu, if_pos (decide_eq_true h)]⟩
    · exact .inr ⟨h, by rw [← hu, if_neg (by simpa using h)]⟩
  rw [hu]
  have hs : signN false (A / 1000000 + u) = ((A / 1000000 + u : Nat) : Int) := rfl
  rw [hs]
  refine ⟨_, chkN_ok (inB_true.2 (by omega)), by omega, by omega, by omega⟩

/-- What Settle answers. -/
def setC (x : Ctr) (n : Int) : Int × Int := if NumC x ∧ 0 ≤ n ∧ n ≤ 70368744177664 then ((min n (x.w + x.s) * x.p + 500000) / 1000000 - (missC x n * x.q + 500000) / 1000000, 0) else (0, 1)

theorem missC_bd {x : Ctr} {n : Int} (h : NumC x) (h0 : 0 ≤ n) : 0 ≤ missC x n ∧ missC x n ≤ 1073741824 := by
  obtain ⟨a1, a2, a3, a4, -⟩ := h
  unfold missC
  omega

end Go.Proofs.Ytnpdkpbecmpdbaa
