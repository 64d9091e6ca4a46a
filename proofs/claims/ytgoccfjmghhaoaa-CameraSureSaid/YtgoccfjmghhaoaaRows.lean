/-
  No cell of these rows narrows 'for every input' (looked for: loops, veiled, ifaces, maps, wideKeys, modest, calm, conditions, laid).
  DERIVED. THE GIVEN ROWS OF THIS SEAT. 7 by the template 'for every input the law returns true; each argument reads behind the call as it read before'; 0 by the template 'total and deterministic' (their statements: YtgoccfjmghhaoaaTotals.lean).
  GIVEN WITH THE SEED: the statements are not yours to turn. If you find one false, say at which input.
  Laid BY PROGRAM, IN A SANDBOX (cutbox-rows.mjs): the forced cells as the released guide's own fill.sh prints them over the translation e533bdc91239929e… (all of the seat's roots in one cut). By AI agents, Wed Nov 11 2026. No macro, syntax, notation, axiom, sorry.
-/
import Derived.Test.YtgoccfjmghhaoaaChecked
import GoSem.Claim
import GoSem.ClaimJoined
import GoSem.ClaimMapViews
import Derived.JoinedTies
import Derived.KernelRfl
namespace Go.Proofs.Ytgoccfjmghhaoaa
/- THE CELL 'sum', in the pinned program and in every row, IS THE sha256 OF THE DUMP (.gsa) THAT YtgoccfjmghhaoaaProg.lean LOADS. Nothing in Lean hashes anything: it is a label: what it is worth is what the hold of that sum in a sandbox is worth. -/
noncomputable def Try.pinned : Pinned := { name := "ytgoccfjmghhaoaa", sum := "e533bdc91239929e3c679fae7b877ea3830f80e8ac1b1e44f07eb77901facd0f", checked := Try.checked }
namespace Rows
def none {H : Type} : Left H := { results := [], args := [] }

/-- 'recyclinglaw31.CameraChecks': WHATEVER THE INPUT: true; the input reads as it did. -/
def cameraChecksSpec : ChangeSpec := { name := "cameraChecks", fn := fun _ => fun
  | [d1, d2] => { results := [.lit (.bool true)], args := [d1, d2] }
  | _ => none }
def cameraChecksRow : OpenClaim := { program := "ytgoccfjmghhaoaa", sum := "e533bdc91239929e3c679fae7b877ea3830f80e8ac1b1e44f07eb77901facd0f", func := "recycling/recyclinglaw31.CameraChecks", spec := "cameraChecks", unfollowed := true, recurses := true, apart := false }
def CameraChecksSaid : Prop := cameraChecksRow.holds Try.pinned (OpenSpec.ofChange cameraChecksSpec)

/-- ITS FALSE NEIGHBOUR: 'it returns false'. Refute it at one input. -/
def cameraChecksWrong : ChangeSpec := { name := "cameraChecks", fn := fun _ => fun
  | [d1, d2] => { results := [.lit (.bool false)], args := [d1, d2] }
  | _ => none }
def CameraChecksWrongFalsely : Prop := cameraChecksRow.holds Try.pinned (OpenSpec.ofChange cameraChecksWrong)

/-- 'recyclinglaw31.CameraSees': WHATEVER THE INPUT: true; the input reads as it did. -/
def cameraSeesSpec : ChangeSpec := { name := "cameraSees", fn := fun _ => fun
  | [d1, d2] => { results := [.lit (.bool true)], args := [d1, d2] }
  | _ => none }
def cameraSeesRow : OpenClaim := { program := "ytgoccfjmghhaoaa", sum := "e533bdc91239929e3c679fae7b877ea3830f80e8ac1b1e44f07eb77901facd0f", func := "recycling/recyclinglaw31.CameraSees", spec := "cameraSees", unfollowed := true, recurses := true, apart := false }
def CameraSeesSaid : Prop := cameraSeesRow.holds Try.pinned (OpenSpec.ofChange cameraSeesSpec)

/-- ITS FALSE NEIGHBOUR: 'it returns false'. Refute it at one input. -/
def cameraSeesWrong : ChangeSpec := { name := "cameraSees", fn := fun _ => fun
  | [d1, d2] => { results := [.lit (.bool false)], args := [d1, d2] }
  | _ => none }
def CameraSeesWrongFalsely : Prop := cameraSeesRow.holds Try.pinned (OpenSpec.ofChange cameraSeesWrong)

/-- 'recyclinglaw31.CameraLikes': WHATEVER THE INPUT: true; the input reads as it did. -/
def cameraLikesSpec : ChangeSpec := { name := "cameraLikes", fn := fun _ => fun
  | [d1, d2, d3] => { results := [.lit (.bool true)], args := [d1, d2, d3] }
  | _ => none }
def cameraLikesRow : OpenClaim := { program := "ytgoccfjmghhaoaa", sum := "e533bdc91239929e3c679fae7b877ea3830f80e8ac1b1e44f07eb77901facd0f", func := "recycling/recyclinglaw31.CameraLikes", spec := "cameraLikes", unfollowed := true, recurses := true, apart := false }
def CameraLikesSaid : Prop := cameraLikesRow.holds Try.pinned (OpenSpec.ofChange cameraLikesSpec)

/-- ITS FALSE NEIGHBOUR: 'it returns false'. Refute it at one input. -/
def cameraLikesWrong : ChangeSpec := { name := "cameraLikes", fn := fun _ => fun
  | [d1, d2, d3] => { results := [.lit (.bool false)], args := [d1, d2, d3] }
  | _ => none }
def CameraLikesWrongFalsely : Prop := cameraLikesRow.holds Try.pinned (OpenSpec.ofChange cameraLikesWrong)

/-- 'recyclinglaw31.CameraConserves': WHATEVER THE INPUT: true; the input reads as it did. -/
def cameraConservesSpec : ChangeSpec := { name := "cameraConserves", fn := fun _ => fun
  | [d1, d2] => { results := [.lit (.bool true)], args := [d1, d2] }
  | _ => none }
def cameraConservesRow : OpenClaim := { program := "ytgoccfjmghhaoaa", sum := "e533bdc91239929e3c679fae7b877ea3830f80e8ac1b1e44f07eb77901facd0f", func := "recycling/recyclinglaw31.CameraConserves", spec := "cameraConserves", unfollowed := true, recurses := true, apart := false }
def CameraConservesSaid : Prop := cameraConservesRow.holds Try.pinned (OpenSpec.ofChange cameraConservesSpec)

/-- ITS FALSE NEIGHBOUR: 'it returns false'. Refute it at one input. -/
def cameraConservesWrong : ChangeSpec := { name := "cameraConserves", fn := fun _ => fun
  | [d1, d2] => { results := [.lit (.bool false)], args := [d1, d2] }
  | _ => none }
def CameraConservesWrongFalsely : Prop := cameraConservesRow.holds Try.pinned (OpenSpec.ofChange cameraConservesWrong)

/-- 'recyclinglaw31.CameraPure': WHATEVER THE INPUT: true; the input reads as it did. -/
def cameraPureSpec : ChangeSpec := { name := "cameraPure", fn := fun _ => fun
  | [d1, d2, d3] => { results := [.lit (.bool true)], args := [d1, d2, d3] }
  | _ => none }
def cameraPureRow : OpenClaim := { program := "ytgoccfjmghhaoaa", sum := "e533bdc91239929e3c679fae7b877ea3830f80e8ac1b1e44f07eb77901facd0f", func := "recycling/recyclinglaw31.CameraPure", spec := "cameraPure", unfollowed := true, recurses := true, apart := false }
def CameraPureSaid : Prop := cameraPureRow.holds Try.pinned (OpenSpec.ofChange cameraPureSpec)

/-- ITS FALSE NEIGHBOUR: 'it returns false'. Refute it at one input. -/
def cameraPureWrong : ChangeSpec := { name := "cameraPure", fn := fun _ => fun
  | [d1, d2, d3] => { results := [.lit (.bool false)], args := [d1, d2, d3] }
  | _ => none }
def CameraPureWrongFalsely : Prop := cameraPureRow.holds Try.pinned (OpenSpec.ofChange cameraPureWrong)

/-- 'recyclinglaw31.CameraSure': WHATEVER THE INPUT: true; the input reads as it did. -/
def cameraSureSpec : ChangeSpec := { name := "cameraSure", fn := fun _ => fun
  | [d1, d2, d3] => { results := [.lit (.bool true)], args := [d1, d2, d3] }
  | _ => none }
def cameraSureRow : OpenClaim := { program := "ytgoccfjmghhaoaa", sum := "e533bdc91239929e3c679fae7b877ea3830f80e8ac1b1e44f07eb77901facd0f", func := "recycling/recyclinglaw31.CameraSure", spec := "cameraSure", unfollowed := true, recurses := true, apart := false }
def CameraSureSaid : Prop := cameraSureRow.holds Try.pinned (OpenSpec.ofChange cameraSureSpec)

/-- ITS FALSE NEIGHBOUR: 'it returns false'. Refute it at one input. -/
def cameraSureWrong : ChangeSpec := { name := "cameraSure", fn := fun _ => fun
  | [d1, d2, d3] => { results := [.lit (.bool false)], args := [d1, d2, d3] }
  | _ => none }
def CameraSureWrongFalsely : Prop := cameraSureRow.holds Try.pinned (OpenSpec.ofChange cameraSureWrong)

/-- 'recyclinglaw31.CameraFails': WHATEVER THE INPUT: true; the input reads as it did. -/
def cameraFailsSpec : ChangeSpec := { name := "cameraFails", fn := fun _ => fun
  | [d1, d2, d3] => { results := [.lit (.bool true)], args := [d1, d2, d3] }
  | _ => none }
def cameraFailsRow : OpenClaim := { program := "ytgoccfjmghhaoaa", sum := "e533bdc91239929e3c679fae7b877ea3830f80e8ac1b1e44f07eb77901facd0f", func := "recycling/recyclinglaw31.CameraFails", spec := "cameraFails", unfollowed := true, recurses := true, apart := false }
def CameraFailsSaid : Prop := cameraFailsRow.holds Try.pinned (OpenSpec.ofChange cameraFailsSpec)

/-- ITS FALSE NEIGHBOUR: 'it returns false'. Refute it at one input. -/
def cameraFailsWrong : ChangeSpec := { name := "cameraFails", fn := fun _ => fun
  | [d1, d2, d3] => { results := [.lit (.bool false)], args := [d1, d2, d3] }
  | _ => none }
def CameraFailsWrongFalsely : Prop := cameraFailsRow.holds Try.pinned (OpenSpec.ofChange cameraFailsWrong)

/- THE SECOND FORM. 'bulk': how many values and letters a reading holds, each counted each time it is reached (what is shared counts as often as it is met; a slice's spare places count too). A statement '..UptoSaid' is the law's where the arguments, and the package variables that the reading takes, are together of bulk at most 1048576: NARROWER than '..Said'. Prove '..Said' where nothing that the law and all that it calls make is longer than what came in: it says more and counts as full. Else prove '..UptoSaid'. A law counts once. -/
mutual
def uptoBulk {H : Type} : DataW H → Nat
  | .lit (.string bytes) => bytes.length + 1
  | .lit _ => 1
  | .nil => 1
  | .ptr d => uptoBulk d + 1
  | .slice elems spare => uptoBulkAll elems + uptoBulkAll spare + 1
  | .agg parts => uptoBulkAll parts + 1
  | .iface _ d => uptoBulk d + 1
  | .map entries => uptoBulkEntries entries + 1
  | .held _ => 1
def uptoBulkAll {H : Type} : List (DataW H) → Nat
  | [] => 0
  | d :: r => uptoBulk d + uptoBulkAll r
def uptoBulkEntries {H : Type} : List (Lit × DataW H) → Nat
  | [] => 0
  | x :: r => uptoBulkEntry x + uptoBulkEntries r
def uptoBulkEntry {H : Type} : Lit × DataW H → Nat
  | (.string bytes, d) => bytes.length + uptoBulk d + 1
  | (_, d) => uptoBulk d + 1
 end
def uptoSmall : (H : Type) → List (DataW H) → Bool := fun _ ds => decide (uptoBulkAll ds ≤ 1048576)
def OpenSpec.upto (s : _root_.Go.ChangeSpec) : _root_.Go.OpenSpec := { _root_.Go.OpenSpec.ofChange s with cond := some uptoSmall }

/-- 'recyclinglaw31.CameraChecks', WHERE WHAT IT READS IS OF BULK AT MOST 1048576: true; the input reads as it did. -/
def cameraChecksUptoRow : OpenClaim := { program := "ytgoccfjmghhaoaa", sum := "e533bdc91239929e3c679fae7b877ea3830f80e8ac1b1e44f07eb77901facd0f", func := "recycling/recyclinglaw31.CameraChecks", spec := "cameraChecks", unfollowed := true, recurses := true, apart := false, narrowed := true }
def CameraChecksUptoSaid : Prop := cameraChecksUptoRow.holds Try.pinned (OpenSpec.upto cameraChecksSpec)

/-- 'recyclinglaw31.CameraSees', WHERE WHAT IT READS IS OF BULK AT MOST 1048576: true; the input reads as it did. -/
def cameraSeesUptoRow : OpenClaim := { program := "ytgoccfjmghhaoaa", sum := "e533bdc91239929e3c679fae7b877ea3830f80e8ac1b1e44f07eb77901facd0f", func := "recycling/recyclinglaw31.CameraSees", spec := "cameraSees", unfollowed := true, recurses := true, apart := false, narrowed := true }
def CameraSeesUptoSaid : Prop := cameraSeesUptoRow.holds Try.pinned (OpenSpec.upto cameraSeesSpec)

/-- 'recyclinglaw31.CameraLikes', WHERE WHAT IT READS IS OF BULK AT MOST 1048576: true; the input reads as it did. -/
def cameraLikesUptoRow : OpenClaim := { program := "ytgoccfjmghhaoaa", sum := "e533bdc91239929e3c679fae7b877ea3830f80e8ac1b1e44f07eb77901facd0f", func := "recycling/recyclinglaw31.CameraLikes", spec := "cameraLikes", unfollowed := true, recurses := true, apart := false, narrowed := true }
def CameraLikesUptoSaid : Prop := cameraLikesUptoRow.holds Try.pinned (OpenSpec.upto cameraLikesSpec)

/-- 'recyclinglaw31.CameraConserves', WHERE WHAT IT READS IS OF BULK AT MOST 1048576: true; the input reads as it did. -/
def cameraConservesUptoRow : OpenClaim := { program := "ytgoccfjmghhaoaa", sum := "e533bdc91239929e3c679fae7b877ea3830f80e8ac1b1e44f07eb77901facd0f", func := "recycling/recyclinglaw31.CameraConserves", spec := "cameraConserves", unfollowed := true, recurses := true, apart := false, narrowed := true }
def CameraConservesUptoSaid : Prop := cameraConservesUptoRow.holds Try.pinned (OpenSpec.upto cameraConservesSpec)

/-- 'recyclinglaw31.CameraPure', WHERE WHAT IT READS IS OF BULK AT MOST 1048576: true; the input reads as it did. -/
def cameraPureUptoRow : OpenClaim := { program := "ytgoccfjmghhaoaa", sum := "e533bdc91239929e3c679fae7b877ea3830f80e8ac1b1e44f07eb77901facd0f", func := "recycling/recyclinglaw31.CameraPure", spec := "cameraPure", unfollowed := true, recurses := true, apart := false, narrowed := true }
def CameraPureUptoSaid : Prop := cameraPureUptoRow.holds Try.pinned (OpenSpec.upto cameraPureSpec)

/-- 'recyclinglaw31.CameraSure', WHERE WHAT IT READS IS OF BULK AT MOST 1048576: true; the input reads as it did. -/
def cameraSureUptoRow : OpenClaim := { program := "ytgoccfjmghhaoaa", sum := "e533bdc91239929e3c679fae7b877ea3830f80e8ac1b1e44f07eb77901facd0f", func := "recycling/recyclinglaw31.CameraSure", spec := "cameraSure", unfollowed := true, recurses := true, apart := false, narrowed := true }
def CameraSureUptoSaid : Prop := cameraSureUptoRow.holds Try.pinned (OpenSpec.upto cameraSureSpec)

/-- 'recyclinglaw31.CameraFails', WHERE WHAT IT READS IS OF BULK AT MOST 1048576: true; the input reads as it did. -/
def cameraFailsUptoRow : OpenClaim := { program := "ytgoccfjmghhaoaa", sum := "e533bdc91239929e3c679fae7b877ea3830f80e8ac1b1e44f07eb77901facd0f", func := "recycling/recyclinglaw31.CameraFails", spec := "cameraFails", unfollowed := true, recurses := true, apart := false, narrowed := true }
def CameraFailsUptoSaid : Prop := cameraFailsUptoRow.holds Try.pinned (OpenSpec.upto cameraFailsSpec)

end Rows
end Go.Proofs.Ytgoccfjmghhaoaa
