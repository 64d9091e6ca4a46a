/-
  Walk over the reference's Add of mixes.
-/
import Derived.Test.YtnpdkpbecmpdbaaVs
import Derived.Test.YtnpdkpbecmpdbaaVc
import Derived.IntWalk
set_option linter.unusedVariables false
set_option linter.unusedSimpArgs false
namespace Go.Proofs.Ytnpdkpbecmpdbaa
open Go.RowKit

theorem sumsL_length {a b : List Int} (h : a.length = b.length) : (sumsL a b).length = a.length := by simp [sumsL, h]
theorem ix_sumsL {a b : List Int} {k : Nat} (h : a.length = b.length) (hk : k < a.length) : ix (sumsL a b) k = ix a k + ix b k := by
  have h1 : k < (sumsL a b).length := by rw [sumsL_length h]; exact hk
  rw [ix_eq h1, ix_eq hk, ix_eq (by omega)]; simp [sumsL]
theorem both_zero {a b : List Int} (h : bothL a b = 0) : faultL a = 0 ∧ faultL b = 0 ∧ a.length = b.length := by
  unfold bothL at h
  split at h
  · contradiction
  · split at h
    · contradiction
    · split at h
      · exact absurd h (by decide)
      · refine ⟨by omega, by omega, by omega⟩
theorem any_over {a b : List Int} {k : Nat} (h : a.length = b.length) (hk : k < a.length) (ho : 1073741824 < ix a k + ix b k) : (sumsL a b).any over = true := by
  have h1 : k < (sumsL a b).length := by rw [sumsL_length h]; exact hk
  rw [List.any_eq_true]
  refine ⟨_, List.getElem_mem h1, ?_⟩
  rw [← ix_eq h1, ix_sumsL h hk]; simpa [over] using ho
theorem none_over {a b : List Int} (h : a.length = b.length) (ho : ∀ k, k < a.length → ix a k + ix b k ≤ 1073741824) : (sumsL a b).any over = false := by
  rw [List.any_eq_false]
  intro x hx
  obtain ⟨k, hk, rfl⟩ := List.mem_iff_getElem.1 hx
  have hk2 : k < a.length := by rw [sumsL_length h] at hk; exact hk
  rw [← ix_eq hk, ix_sumsL h hk2]
  simpa [over] using ho k hk2

/-- What a call returns that gives a list of numbers in new memory, and an error number. -/
def ListErr (r : List Int × Int) (w : World) (e : Ending) (w' : World) : Prop :=
  ∃ a' c', e = .returned (.tuple #[.slice a' r.1.length c', .int .i64 r.2]) ∧ Mod NoBlock w w' ∧ Ints (fun b => w.heap.size ≤ b) w' a' r.1

end Go.Proofs.Ytnpdkpbecmpdbaa
