/-
  Walk over the reference's Sub of mixes.
-/
import Derived.Test.YtnpdkpbecmpdbaaVj
set_option linter.unusedVariables false
set_option linter.unusedSimpArgs false
namespace Go.Proofs.Ytnpdkpbecmpdbaa
open Go.RowKit

theorem any_under {a b : List Int} {k : Nat} (h : a.length = b.length) (hk : k < a.length) (ho : ix a k < ix b k) : (diffsL a b).any (fun n => decide (n < 0)) = true := by
  have h1 : k < (diffsL a b).length := by rw [diffsL_length h]; exact hk
  rw [List.any_eq_true]
  refine ⟨_, List.getElem_mem h1, ?_⟩
  rw [← ix_eq h1, ix_diffsL h hk]; simp; omega
theorem none_under {a b : List Int} (h : a.length = b.length) (ho : ∀ k, k < a.length → ix b k ≤ ix a k) : (diffsL a b).any (fun n => decide (n < 0)) = false := by
  rw [List.any_eq_false]
  intro x hx
  obtain ⟨k, hk, rfl⟩ := List.mem_iff_getElem.1 hx
  have hk2 : k < a.length := by rw [diffsL_length h] at hk; exact hk
  rw [← ix_eq hk, ix_diffsL h hk2]
  have := ho k hk2
  simp; omega

end Go.Proofs.Ytnpdkpbecmpdbaa
