/-
  match: bounds of the potentials behind a search.
-/
import Derived.Test.YtnpdkpbecmpdbaaHp
set_option linter.unusedVariables false
set_option linter.unusedSimpArgs false
namespace Go.Proofs.Ytnpdkpbecmpdbaa
open Go.RowKit

def BUV (n K : Nat) (u v : Nat → Int) : Prop := (∀ r, 1 ≤ r → r ≤ n → 0 ≤ u r ∧ u r ≤ far) ∧ ∀ j, 1 ≤ j → j ≤ K → -far ≤ v j ∧ v j ≤ 0
theorem BUV.zero (n K : Nat) : BUV n K (fun _ => 0) (fun _ => 0) := ⟨fun _ _ _ => ⟨Int.le_refl _, by show (0 : Int) ≤ far; decide⟩, fun _ _ _ => ⟨by show -far ≤ (0 : Int); decide, Int.le_refl _⟩⟩
theorem back_bound {c : Nat → Nat → Int} {n K i : Nat} {row : Nat → Nat} {u v : Nat → Int} {inf z : Int} {t : Nat} {s : PS} (hd : HD c n K i row u v) (hi : i < n) (hnK : n ≤ K) (hc : CostOk c n K)
    (h : PI c n K inf (rootAt row (i + 1)) z t s) : BUV n K s.u s.v := by
  obtain ⟨f, f1, fK, ff⟩ := hd.free (by omega)
  have ffr : rootAt row (i + 1) f = 0 := by unfold rootAt; rw [if_neg (by omega)]; exact ff
  exact ⟨fun r r1 rn => h.pot.uLe hc f1 fK ffr r1 rn, fun j j1 jK => h.pot.vLe hc (fun j _ jK => (hd.rowOk hi).le j jK) f1 fK ffr j1 jK⟩

end Go.Proofs.Ytnpdkpbecmpdbaa
