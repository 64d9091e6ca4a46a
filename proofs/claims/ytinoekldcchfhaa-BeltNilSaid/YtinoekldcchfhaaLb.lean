/-
  The law BeltNil.
-/
import Derived.Test.YtinoekldcchfhaaLa
set_option linter.unusedVariables false
set_option linter.unusedSimpArgs false
namespace Go.Proofs.Ytinoekldcchfhaa
open Go.RowKit

set_option maxRecDepth 100000 in
set_option maxHeartbeats 800000 in
theorem beltNil_walk (a : Option Addr) (n c : Nat) (w : World) :
    Calls Try.prog 7 #[.slice a n c] w fun e w' => e = .returned (.bool true) ∧ Mod NoBlock w w' := by
  by_cases h : 100 < n
  · go_enter Try.func7, Try.ntmps7
    go_wp2_with (go_at_call 17; refine (awake_any _).mono ?_; rintro e w1 ⟨rfl, hm⟩)
    go_ret
    exact ⟨rfl, hm⟩
  · go_enter Try.func7, Try.ntmps7
    go_wp2_with (first
      | (go_at_call 21; refine (step_nil _ _).mono ?_; rintro e w1 ⟨rfl, rfl⟩)
      | (go_at_call 13; refine (slotsList_nil _).mono ?_; rintro e w1 ⟨rfl, rfl⟩)
      | (go_at_call 15; refine (beltTotal_nil _).mono ?_; rintro e w1 ⟨rfl, rfl⟩)
      | (go_at_call 19; refine (beltClear_nil _).mono ?_; rintro e w1 ⟨rfl, rfl⟩)
      | (go_at_call 17; refine (awake_any _).mono ?_; rintro e w1 ⟨rfl, hm⟩))
    go_ret
    exact ⟨rfl, hm⟩

theorem beltNil_fin {W : World} {P : Int → Prop} (a : Option Addr) (c : Nat) (xs : List Int) (_ : Ints (fun _ => True) W a xs) (_ : xs.length ≤ c) (_ : ∀ x ∈ xs, P x) (w : World) :
    Calls Try.prog 7 #[.slice a xs.length c] w fun e w' => e = .returned (.bool true) ∧ Mod NoBlock w w' := beltNil_walk a xs.length c w

end Go.Proofs.Ytinoekldcchfhaa
