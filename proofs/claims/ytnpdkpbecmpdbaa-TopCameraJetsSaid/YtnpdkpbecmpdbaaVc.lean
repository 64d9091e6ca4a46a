/-
  The types of mixes and of lists of mixes: their sizes.
-/
import Derived.Test.YtnpdkpbecmpdbaaVb
import Derived.Test.YtnpdkpbecmpdbaaOwn
set_option linter.unusedVariables false
set_option linter.unusedSimpArgs false
namespace Go.Proofs.Ytnpdkpbecmpdbaa
open Go.RowKit

theorem infoInt : (Try.prog.info? 3).map (fun i => (i.zero, i.size, i.bytes)) = some (some (.int .i64 0), 1, 8) := by kernel_rfl
theorem infoMix : (Try.prog.info? 36).map (fun i => (i.zero, i.size, i.bytes)) = some (some (.slice Option.none 0 0), 1, 24) := by kernel_rfl
theorem elemMix : Elem1 Try.prog 36 3 8 := Elem1.mk Try.underlying36 infoInt rfl
theorem elemMixes : Elem1 Try.prog 27 36 24 := Elem1.mk Try.underlying27 infoMix rfl

theorem madeInts (w : World) (m : Nat) (t : TypeId) : (w.alloc (.cells (madeCells #[.int .i64 0] m) t)).rowIs w.heap.size t m (fun _ => .int .i64 0) := World.rowIs_made w _ m t

end Go.Proofs.Ytnpdkpbecmpdbaa
