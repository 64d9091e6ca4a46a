/-
  Walks over material.Valid, the reference's Valid, both.
-/
import Derived.Test.YtnpdkpbecmpdbaaWa
set_option linter.unusedVariables false
set_option linter.unusedSimpArgs false
namespace Go.Proofs.Ytnpdkpbecmpdbaa
open Go.RowKit

theorem decide_beq (a b : Int) : decide (a = b) = (a == b) := rfl

end Go.Proofs.Ytnpdkpbecmpdbaa
