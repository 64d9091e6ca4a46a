/-
  camera: the reference's Next of a carry.
-/
import Derived.Test.YtnpdkpbecmpdbaaCi
set_option linter.unusedVariables false
set_option linter.unusedSimpArgs false
namespace Go.Proofs.Ytnpdkpbecmpdbaa
open Go.RowKit

end Go.Proofs.Ytnpdkpbecmpdbaa
