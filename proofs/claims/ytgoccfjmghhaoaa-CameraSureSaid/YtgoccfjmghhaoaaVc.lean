/-
  The types of mixes and of lists of mixes: their sizes.
-/
import Derived.Test.YtgoccfjmghhaoaaVb
import Derived.Test.YtgoccfjmghhaoaaOwn
set_option linter.unusedVariables false
set_option linter.unusedSimpArgs false
namespace Go.Proofs.Ytgoccfjmghhaoaa
open Go.RowKit

theorem infoInt : (Try.prog.info? 3).map (fun i => (i.zero, i.size, i.bytes)) = some (some (.int .i64 0), 1, 8) := by kernel_rfl
theorem infoMix : (Try.prog.info? 42).map (fun i => (i.zero, i.size, i.bytes)) = some (some (.slice Option.none 0 0), 1, 24) := by kernel_rfl
theorem elemMix : Elem1 Try.prog 42 3 8 := Elem1.mk Try.underlying42 infoInt rfl
theorem elemMixes : Elem1 Try.prog 33 42 24 := Elem1.mk Try.underlying33 infoMix rfl

theorem madeInts (w : World) (m : Nat) (t : TypeId) : (w.alloc (.cells (madeCells #[.int .i64 0] m) t)).rowIs w.heap.size t m (fun _ => .int .i64 0) := World.rowIs_made w _ m t

end Go.Proofs.Ytgoccfjmghhaoaa
