/-
  No cell of these rows narrows 'for every input' (looked for: loops, veiled, ifaces, maps, wideKeys, modest, calm, conditions, laid).
  DERIVED. THE GIVEN ROWS OF THIS SEAT. 7 by the template 'for every input the law returns true; each argument reads behind the call as it read before'; 0 by the template 'total and deterministic' (their statements: YtinoekldcchfhaaTotals.lean).
  GIVEN WITH THE SEED: the statements are not yours to turn. If you find one false, say at which input.
  Laid BY PROGRAM, IN A SANDBOX (cutbox-rows.mjs): the forced cells as the released guide's own fill.sh prints them over the translation 20e23c4d638293ee… (all of the seat's roots in one cut). By AI agents, Wed Nov 11 2026. No macro, syntax, notation, axiom, sorry.
-/
import Derived.Test.YtinoekldcchfhaaChecked
import GoSem.Claim
import GoSem.ClaimJoined
import GoSem.ClaimMapViews
import Derived.JoinedTies
import Derived.KernelRfl
namespace Go.Proofs.Ytinoekldcchfhaa
/- THE CELL 'sum', in the pinned program and in every row, IS THE sha256 OF THE DUMP (.gsa) THAT YtinoekldcchfhaaProg.lean LOADS. Nothing in Lean hashes anything: it is a label: what it is worth is what the hold of that sum in a sandbox is worth. -/
noncomputable def Try.pinned : Pinned := { name := "ytinoekldcchfhaa", sum := "20e23c4d638293eeb7933d0f612d70e49cd181a93e5d40f520ffcf6087f99ca1", checked := Try.checked }
namespace Rows
def none {H : Type} : Left H := { results := [], args := [] }

/-- 'recyclinglaw30.BeltNews': WHATEVER THE INPUT: true; the input reads as it did. -/
def beltNewsSpec : ChangeSpec := { name := "beltNews", fn := fun _ => fun
  | [d1, d2] => { results := [.lit (.bool true)], args := [d1, d2] }
  | _ => none }
def beltNewsRow : OpenClaim := { program := "ytinoekldcchfhaa", sum := "20e23c4d638293eeb7933d0f612d70e49cd181a93e5d40f520ffcf6087f99ca1", func := "recycling/recyclinglaw30.BeltNews", spec := "beltNews", unfollowed := true, recurses := true, apart := false }
def BeltNewsSaid : Prop := beltNewsRow.holds Try.pinned (OpenSpec.ofChange beltNewsSpec)

/-- ITS FALSE NEIGHBOUR: 'it returns false'. Refute it at one input. -/
def beltNewsWrong : ChangeSpec := { name := "beltNews", fn := fun _ => fun
  | [d1, d2] => { results := [.lit (.bool false)], args := [d1, d2] }
  | _ => none }
def BeltNewsWrongFalsely : Prop := beltNewsRow.holds Try.pinned (OpenSpec.ofChange beltNewsWrong)

/-- 'recyclinglaw30.BeltPlays': WHATEVER THE INPUT: true; the input reads as it did. -/
def beltPlaysSpec : ChangeSpec := { name := "beltPlays", fn := fun _ => fun
  | [d1, d2, d3] => { results := [.lit (.bool true)], args := [d1, d2, d3] }
  | _ => none }
def beltPlaysRow : OpenClaim := { program := "ytinoekldcchfhaa", sum := "20e23c4d638293eeb7933d0f612d70e49cd181a93e5d40f520ffcf6087f99ca1", func := "recycling/recyclinglaw30.BeltPlays", spec := "beltPlays", unfollowed := true, recurses := true, apart := false }
def BeltPlaysSaid : Prop := beltPlaysRow.holds Try.pinned (OpenSpec.ofChange beltPlaysSpec)

/-- ITS FALSE NEIGHBOUR: 'it returns false'. Refute it at one input. -/
def beltPlaysWrong : ChangeSpec := { name := "beltPlays", fn := fun _ => fun
  | [d1, d2, d3] => { results := [.lit (.bool false)], args := [d1, d2, d3] }
  | _ => none }
def BeltPlaysWrongFalsely : Prop := beltPlaysRow.holds Try.pinned (OpenSpec.ofChange beltPlaysWrong)

/-- 'recyclinglaw30.BeltFifo': WHATEVER THE INPUT: true; the input reads as it did. -/
def beltFifoSpec : ChangeSpec := { name := "beltFifo", fn := fun _ => fun
  | [d1, d2, d3] => { results := [.lit (.bool true)], args := [d1, d2, d3] }
  | _ => none }
def beltFifoRow : OpenClaim := { program := "ytinoekldcchfhaa", sum := "20e23c4d638293eeb7933d0f612d70e49cd181a93e5d40f520ffcf6087f99ca1", func := "recycling/recyclinglaw30.BeltFifo", spec := "beltFifo", unfollowed := true, recurses := true, apart := false }
def BeltFifoSaid : Prop := beltFifoRow.holds Try.pinned (OpenSpec.ofChange beltFifoSpec)

/-- ITS FALSE NEIGHBOUR: 'it returns false'. Refute it at one input. -/
def beltFifoWrong : ChangeSpec := { name := "beltFifo", fn := fun _ => fun
  | [d1, d2, d3] => { results := [.lit (.bool false)], args := [d1, d2, d3] }
  | _ => none }
def BeltFifoWrongFalsely : Prop := beltFifoRow.holds Try.pinned (OpenSpec.ofChange beltFifoWrong)

/-- 'recyclinglaw30.BeltOwns': WHATEVER THE INPUT: true; the input reads as it did. -/
def beltOwnsSpec : ChangeSpec := { name := "beltOwns", fn := fun _ => fun
  | [d1, d2, d3, d4] => { results := [.lit (.bool true)], args := [d1, d2, d3, d4] }
  | _ => none }
def beltOwnsRow : OpenClaim := { program := "ytinoekldcchfhaa", sum := "20e23c4d638293eeb7933d0f612d70e49cd181a93e5d40f520ffcf6087f99ca1", func := "recycling/recyclinglaw30.BeltOwns", spec := "beltOwns", unfollowed := true, recurses := true, apart := false }
def BeltOwnsSaid : Prop := beltOwnsRow.holds Try.pinned (OpenSpec.ofChange beltOwnsSpec)

/-- ITS FALSE NEIGHBOUR: 'it returns false'. Refute it at one input. -/
def beltOwnsWrong : ChangeSpec := { name := "beltOwns", fn := fun _ => fun
  | [d1, d2, d3, d4] => { results := [.lit (.bool false)], args := [d1, d2, d3, d4] }
  | _ => none }
def BeltOwnsWrongFalsely : Prop := beltOwnsRow.holds Try.pinned (OpenSpec.ofChange beltOwnsWrong)

/-- 'recyclinglaw30.BeltNil': WHATEVER THE INPUT: true; the input reads as it did. -/
def beltNilSpec : ChangeSpec := { name := "beltNil", fn := fun _ => fun
  | [d] => { results := [.lit (.bool true)], args := [d] }
  | _ => none }
def beltNilRow : OpenClaim := { program := "ytinoekldcchfhaa", sum := "20e23c4d638293eeb7933d0f612d70e49cd181a93e5d40f520ffcf6087f99ca1", func := "recycling/recyclinglaw30.BeltNil", spec := "beltNil", unfollowed := true, recurses := true, apart := false }
def BeltNilSaid : Prop := beltNilRow.holds Try.pinned (OpenSpec.ofChange beltNilSpec)

/-- ITS FALSE NEIGHBOUR: 'it returns false'. Refute it at one input. -/
def beltNilWrong : ChangeSpec := { name := "beltNil", fn := fun _ => fun
  | [d] => { results := [.lit (.bool false)], args := [d] }
  | _ => none }
def BeltNilWrongFalsely : Prop := beltNilRow.holds Try.pinned (OpenSpec.ofChange beltNilWrong)

/-- 'recyclinglaw30.BeltSeries': WHATEVER THE INPUT: true; the input reads as it did. -/
def beltSeriesSpec : ChangeSpec := { name := "beltSeries", fn := fun _ => fun
  | [d1, d2, d3, d4] => { results := [.lit (.bool true)], args := [d1, d2, d3, d4] }
  | _ => none }
def beltSeriesRow : OpenClaim := { program := "ytinoekldcchfhaa", sum := "20e23c4d638293eeb7933d0f612d70e49cd181a93e5d40f520ffcf6087f99ca1", func := "recycling/recyclinglaw30.BeltSeries", spec := "beltSeries", unfollowed := true, recurses := true, apart := false }
def BeltSeriesSaid : Prop := beltSeriesRow.holds Try.pinned (OpenSpec.ofChange beltSeriesSpec)

/-- ITS FALSE NEIGHBOUR: 'it returns false'. Refute it at one input. -/
def beltSeriesWrong : ChangeSpec := { name := "beltSeries", fn := fun _ => fun
  | [d1, d2, d3, d4] => { results := [.lit (.bool false)], args := [d1, d2, d3, d4] }
  | _ => none }
def BeltSeriesWrongFalsely : Prop := beltSeriesRow.holds Try.pinned (OpenSpec.ofChange beltSeriesWrong)

/-- 'recyclinglaw30.BeltAdds': WHATEVER THE INPUT: true; the input reads as it did. -/
def beltAddsSpec : ChangeSpec := { name := "beltAdds", fn := fun _ => fun
  | [d1, d2, d3] => { results := [.lit (.bool true)], args := [d1, d2, d3] }
  | _ => none }
def beltAddsRow : OpenClaim := { program := "ytinoekldcchfhaa", sum := "20e23c4d638293eeb7933d0f612d70e49cd181a93e5d40f520ffcf6087f99ca1", func := "recycling/recyclinglaw30.BeltAdds", spec := "beltAdds", unfollowed := true, recurses := true, apart := false }
def BeltAddsSaid : Prop := beltAddsRow.holds Try.pinned (OpenSpec.ofChange beltAddsSpec)

/-- ITS FALSE NEIGHBOUR: 'it returns false'. Refute it at one input. -/
def beltAddsWrong : ChangeSpec := { name := "beltAdds", fn := fun _ => fun
  | [d1, d2, d3] => { results := [.lit (.bool false)], args := [d1, d2, d3] }
  | _ => none }
def BeltAddsWrongFalsely : Prop := beltAddsRow.holds Try.pinned (OpenSpec.ofChange beltAddsWrong)

/- THE SECOND FORM. 'bulk': how many values and letters a reading holds, each counted each time it is reached (what is shared counts as often as it is met; a slice's spare places count too). A statement '..UptoSaid' is the law's where the arguments, and the package variables that the reading takes, are together of bulk at most 1048576: NARROWER than '..Said'. Prove '..Said' where nothing that the law and all that it calls make is longer than what came in: it says more and counts as full. Else prove '..UptoSaid'. A law counts once. -/
mutual
def uptoBulk {H : Type} : DataW H → Nat
  | .lit (.string bytes) => bytes.length + 1
  | .lit _ => 1
  | .nil => 1
  | .ptr d => uptoBulk d + 1
  | .slice elems spare => uptoBulkAll elems + uptoBulkAll spare + 1
  | .agg parts => uptoBulkAll parts + 1
  | .iface _ d => uptoBulk d + 1
  | .map entries => uptoBulkEntries entries + 1
  | .held _ => 1
def uptoBulkAll {H : Type} : List (DataW H) → Nat
  | [] => 0
  | d :: r => uptoBulk d + uptoBulkAll r
def uptoBulkEntries {H : Type} : List (Lit × DataW H) → Nat
  | [] => 0
  | x :: r => uptoBulkEntry x + uptoBulkEntries r
def uptoBulkEntry {H : Type} : Lit × DataW H → Nat
  | (.string bytes, d) => bytes.length + uptoBulk d + 1
  | (_, d) => uptoBulk d + 1
 end
def uptoSmall : (H : Type) → List (DataW H) → Bool := fun _ ds => decide (uptoBulkAll ds ≤ 1048576)
def OpenSpec.upto (s : _root_.Go.ChangeSpec) : _root_.Go.OpenSpec := { _root_.Go.OpenSpec.ofChange s with cond := some uptoSmall }

/-- 'recyclinglaw30.BeltNews', WHERE WHAT IT READS IS OF BULK AT MOST 1048576: true; the input reads as it did. -/
def beltNewsUptoRow : OpenClaim := { program := "ytinoekldcchfhaa", sum := "20e23c4d638293eeb7933d0f612d70e49cd181a93e5d40f520ffcf6087f99ca1", func := "recycling/recyclinglaw30.BeltNews", spec := "beltNews", unfollowed := true, recurses := true, apart := false, narrowed := true }
def BeltNewsUptoSaid : Prop := beltNewsUptoRow.holds Try.pinned (OpenSpec.upto beltNewsSpec)

/-- 'recyclinglaw30.BeltPlays', WHERE WHAT IT READS IS OF BULK AT MOST 1048576: true; the input reads as it did. -/
def beltPlaysUptoRow : OpenClaim := { program := "ytinoekldcchfhaa", sum := "20e23c4d638293eeb7933d0f612d70e49cd181a93e5d40f520ffcf6087f99ca1", func := "recycling/recyclinglaw30.BeltPlays", spec := "beltPlays", unfollowed := true, recurses := true, apart := false, narrowed := true }
def BeltPlaysUptoSaid : Prop := beltPlaysUptoRow.holds Try.pinned (OpenSpec.upto beltPlaysSpec)

/-- 'recyclinglaw30.BeltFifo', WHERE WHAT IT READS IS OF BULK AT MOST 1048576: true; the input reads as it did. -/
def beltFifoUptoRow : OpenClaim := { program := "ytinoekldcchfhaa", sum := "20e23c4d638293eeb7933d0f612d70e49cd181a93e5d40f520ffcf6087f99ca1", func := "recycling/recyclinglaw30.BeltFifo", spec := "beltFifo", unfollowed := true, recurses := true, apart := false, narrowed := true }
def BeltFifoUptoSaid : Prop := beltFifoUptoRow.holds Try.pinned (OpenSpec.upto beltFifoSpec)

/-- 'recyclinglaw30.BeltOwns', WHERE WHAT IT READS IS OF BULK AT MOST 1048576: true; the input reads as it did. -/
def beltOwnsUptoRow : OpenClaim := { program := "ytinoekldcchfhaa", sum := "20e23c4d638293eeb7933d0f612d70e49cd181a93e5d40f520ffcf6087f99ca1", func := "recycling/recyclinglaw30.BeltOwns", spec := "beltOwns", unfollowed := true, recurses := true, apart := false, narrowed := true }
def BeltOwnsUptoSaid : Prop := beltOwnsUptoRow.holds Try.pinned (OpenSpec.upto beltOwnsSpec)

/-- 'recyclinglaw30.BeltNil', WHERE WHAT IT READS IS OF BULK AT MOST 1048576: true; the input reads as it did. -/
def beltNilUptoRow : OpenClaim := { program := "ytinoekldcchfhaa", sum := "20e23c4d638293eeb7933d0f612d70e49cd181a93e5d40f520ffcf6087f99ca1", func := "recycling/recyclinglaw30.BeltNil", spec := "beltNil", unfollowed := true, recurses := true, apart := false, narrowed := true }
def BeltNilUptoSaid : Prop := beltNilUptoRow.holds Try.pinned (OpenSpec.upto beltNilSpec)

/-- 'recyclinglaw30.BeltSeries', WHERE WHAT IT READS IS OF BULK AT MOST 1048576: true; the input reads as it did. -/
def beltSeriesUptoRow : OpenClaim := { program := "ytinoekldcchfhaa", sum := "20e23c4d638293eeb7933d0f612d70e49cd181a93e5d40f520ffcf6087f99ca1", func := "recycling/recyclinglaw30.BeltSeries", spec := "beltSeries", unfollowed := true, recurses := true, apart := false, narrowed := true }
def BeltSeriesUptoSaid : Prop := beltSeriesUptoRow.holds Try.pinned (OpenSpec.upto beltSeriesSpec)

/-- 'recyclinglaw30.BeltAdds', WHERE WHAT IT READS IS OF BULK AT MOST 1048576: true; the input reads as it did. -/
def beltAddsUptoRow : OpenClaim := { program := "ytinoekldcchfhaa", sum := "20e23c4d638293eeb7933d0f612d70e49cd181a93e5d40f520ffcf6087f99ca1", func := "recycling/recyclinglaw30.BeltAdds", spec := "beltAdds", unfollowed := true, recurses := true, apart := false, narrowed := true }
def BeltAddsUptoSaid : Prop := beltAddsUptoRow.holds Try.pinned (OpenSpec.upto beltAddsSpec)

end Rows
end Go.Proofs.Ytinoekldcchfhaa
