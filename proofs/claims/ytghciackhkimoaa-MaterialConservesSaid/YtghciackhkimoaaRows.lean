/-
  No cell of these rows narrows 'for every input' (looked for: loops, veiled, ifaces, maps, wideKeys, modest, calm, conditions, laid).
  DERIVED. THE GIVEN ROWS OF THIS SEAT. 8 by the template 'for every input the law returns true; each argument reads behind the call as it read before'; 0 by the template 'total and deterministic' (their statements: YtghciackhkimoaaTotals.lean).
  GIVEN WITH THE SEED: the statements are not yours to turn. If you find one false, say at which input.
  Laid BY PROGRAM, IN A SANDBOX (cutbox-rows.mjs): the forced cells as the released guide's own fill.sh prints them over the translation a7d71a47090b79e3… (all of the seat's roots in one cut). By AI agents, Wed Nov 11 2026. No macro, syntax, notation, axiom, sorry.
-/
import Derived.Test.YtghciackhkimoaaChecked
import GoSem.Claim
import GoSem.ClaimJoined
import GoSem.ClaimMapViews
import Derived.JoinedTies
import Derived.KernelRfl
namespace Go.Proofs.Ytghciackhkimoaa
/- THE CELL 'sum', in the pinned program and in every row, IS THE sha256 OF THE DUMP (.gsa) THAT YtghciackhkimoaaProg.lean LOADS. Nothing in Lean hashes anything: it is a label: what it is worth is what the hold of that sum in a sandbox is worth. -/
noncomputable def Try.pinned : Pinned := { name := "ytghciackhkimoaa", sum := "a7d71a47090b79e3ec005e4634c6354fa9754019a97dff65bd410f7af8ff4b23", checked := Try.checked }
namespace Rows
def none {H : Type} : Left H := { results := [], args := [] }

/-- 'recyclinglaw12.MaterialChecks': WHATEVER THE INPUT: true; the input reads as it did. -/
def materialChecksSpec : ChangeSpec := { name := "materialChecks", fn := fun _ => fun
  | [d] => { results := [.lit (.bool true)], args := [d] }
  | _ => none }
def materialChecksRow : OpenClaim := { program := "ytghciackhkimoaa", sum := "a7d71a47090b79e3ec005e4634c6354fa9754019a97dff65bd410f7af8ff4b23", func := "recycling/recyclinglaw12.MaterialChecks", spec := "materialChecks", unfollowed := true, recurses := true, apart := false }
def MaterialChecksSaid : Prop := materialChecksRow.holds Try.pinned (OpenSpec.ofChange materialChecksSpec)

/-- ITS FALSE NEIGHBOUR: 'it returns false'. Refute it at one input. -/
def materialChecksWrong : ChangeSpec := { name := "materialChecks", fn := fun _ => fun
  | [d] => { results := [.lit (.bool false)], args := [d] }
  | _ => none }
def MaterialChecksWrongFalsely : Prop := materialChecksRow.holds Try.pinned (OpenSpec.ofChange materialChecksWrong)

/-- 'recyclinglaw12.MaterialAdds': WHATEVER THE INPUT: true; the input reads as it did. -/
def materialAddsSpec : ChangeSpec := { name := "materialAdds", fn := fun _ => fun
  | [d1, d2] => { results := [.lit (.bool true)], args := [d1, d2] }
  | _ => none }
def materialAddsRow : OpenClaim := { program := "ytghciackhkimoaa", sum := "a7d71a47090b79e3ec005e4634c6354fa9754019a97dff65bd410f7af8ff4b23", func := "recycling/recyclinglaw12.MaterialAdds", spec := "materialAdds", unfollowed := true, recurses := true, apart := false }
def MaterialAddsSaid : Prop := materialAddsRow.holds Try.pinned (OpenSpec.ofChange materialAddsSpec)

/-- ITS FALSE NEIGHBOUR: 'it returns false'. Refute it at one input. -/
def materialAddsWrong : ChangeSpec := { name := "materialAdds", fn := fun _ => fun
  | [d1, d2] => { results := [.lit (.bool false)], args := [d1, d2] }
  | _ => none }
def MaterialAddsWrongFalsely : Prop := materialAddsRow.holds Try.pinned (OpenSpec.ofChange materialAddsWrong)

/-- 'recyclinglaw12.MaterialTotals': WHATEVER THE INPUT: true; the input reads as it did. -/
def materialTotalsSpec : ChangeSpec := { name := "materialTotals", fn := fun _ => fun
  | [d1, d2, d3] => { results := [.lit (.bool true)], args := [d1, d2, d3] }
  | _ => none }
def materialTotalsRow : OpenClaim := { program := "ytghciackhkimoaa", sum := "a7d71a47090b79e3ec005e4634c6354fa9754019a97dff65bd410f7af8ff4b23", func := "recycling/recyclinglaw12.MaterialTotals", spec := "materialTotals", unfollowed := true, recurses := true, apart := false }
def MaterialTotalsSaid : Prop := materialTotalsRow.holds Try.pinned (OpenSpec.ofChange materialTotalsSpec)

/-- ITS FALSE NEIGHBOUR: 'it returns false'. Refute it at one input. -/
def materialTotalsWrong : ChangeSpec := { name := "materialTotals", fn := fun _ => fun
  | [d1, d2, d3] => { results := [.lit (.bool false)], args := [d1, d2, d3] }
  | _ => none }
def MaterialTotalsWrongFalsely : Prop := materialTotalsRow.holds Try.pinned (OpenSpec.ofChange materialTotalsWrong)

/-- 'recyclinglaw12.MaterialLitres': WHATEVER THE INPUT: true; the input reads as it did. -/
def materialLitresSpec : ChangeSpec := { name := "materialLitres", fn := fun _ => fun
  | [d1, d2] => { results := [.lit (.bool true)], args := [d1, d2] }
  | _ => none }
def materialLitresRow : OpenClaim := { program := "ytghciackhkimoaa", sum := "a7d71a47090b79e3ec005e4634c6354fa9754019a97dff65bd410f7af8ff4b23", func := "recycling/recyclinglaw12.MaterialLitres", spec := "materialLitres", unfollowed := true, recurses := true, apart := false }
def MaterialLitresSaid : Prop := materialLitresRow.holds Try.pinned (OpenSpec.ofChange materialLitresSpec)

/-- ITS FALSE NEIGHBOUR: 'it returns false'. Refute it at one input. -/
def materialLitresWrong : ChangeSpec := { name := "materialLitres", fn := fun _ => fun
  | [d1, d2] => { results := [.lit (.bool false)], args := [d1, d2] }
  | _ => none }
def MaterialLitresWrongFalsely : Prop := materialLitresRow.holds Try.pinned (OpenSpec.ofChange materialLitresWrong)

/-- 'recyclinglaw12.MaterialDivides': WHATEVER THE INPUT: true; the input reads as it did. -/
def materialDividesSpec : ChangeSpec := { name := "materialDivides", fn := fun _ => fun
  | [d1, d2] => { results := [.lit (.bool true)], args := [d1, d2] }
  | _ => none }
def materialDividesRow : OpenClaim := { program := "ytghciackhkimoaa", sum := "a7d71a47090b79e3ec005e4634c6354fa9754019a97dff65bd410f7af8ff4b23", func := "recycling/recyclinglaw12.MaterialDivides", spec := "materialDivides", unfollowed := true, recurses := true, apart := false }
def MaterialDividesSaid : Prop := materialDividesRow.holds Try.pinned (OpenSpec.ofChange materialDividesSpec)

/-- ITS FALSE NEIGHBOUR: 'it returns false'. Refute it at one input. -/
def materialDividesWrong : ChangeSpec := { name := "materialDivides", fn := fun _ => fun
  | [d1, d2] => { results := [.lit (.bool false)], args := [d1, d2] }
  | _ => none }
def MaterialDividesWrongFalsely : Prop := materialDividesRow.holds Try.pinned (OpenSpec.ofChange materialDividesWrong)

/-- 'recyclinglaw12.MaterialConserves': WHATEVER THE INPUT: true; the input reads as it did. -/
def materialConservesSpec : ChangeSpec := { name := "materialConserves", fn := fun _ => fun
  | [d1, d2] => { results := [.lit (.bool true)], args := [d1, d2] }
  | _ => none }
def materialConservesRow : OpenClaim := { program := "ytghciackhkimoaa", sum := "a7d71a47090b79e3ec005e4634c6354fa9754019a97dff65bd410f7af8ff4b23", func := "recycling/recyclinglaw12.MaterialConserves", spec := "materialConserves", unfollowed := true, recurses := true, apart := false }
def MaterialConservesSaid : Prop := materialConservesRow.holds Try.pinned (OpenSpec.ofChange materialConservesSpec)

/-- ITS FALSE NEIGHBOUR: 'it returns false'. Refute it at one input. -/
def materialConservesWrong : ChangeSpec := { name := "materialConserves", fn := fun _ => fun
  | [d1, d2] => { results := [.lit (.bool false)], args := [d1, d2] }
  | _ => none }
def MaterialConservesWrongFalsely : Prop := materialConservesRow.holds Try.pinned (OpenSpec.ofChange materialConservesWrong)

/-- 'recyclinglaw12.MaterialBack': WHATEVER THE INPUT: true; the input reads as it did. -/
def materialBackSpec : ChangeSpec := { name := "materialBack", fn := fun _ => fun
  | [d1, d2] => { results := [.lit (.bool true)], args := [d1, d2] }
  | _ => none }
def materialBackRow : OpenClaim := { program := "ytghciackhkimoaa", sum := "a7d71a47090b79e3ec005e4634c6354fa9754019a97dff65bd410f7af8ff4b23", func := "recycling/recyclinglaw12.MaterialBack", spec := "materialBack", unfollowed := true, recurses := true, apart := false }
def MaterialBackSaid : Prop := materialBackRow.holds Try.pinned (OpenSpec.ofChange materialBackSpec)

/-- ITS FALSE NEIGHBOUR: 'it returns false'. Refute it at one input. -/
def materialBackWrong : ChangeSpec := { name := "materialBack", fn := fun _ => fun
  | [d1, d2] => { results := [.lit (.bool false)], args := [d1, d2] }
  | _ => none }
def MaterialBackWrongFalsely : Prop := materialBackRow.holds Try.pinned (OpenSpec.ofChange materialBackWrong)

/-- 'recyclinglaw12.MaterialPurities': WHATEVER THE INPUT: true; the input reads as it did. -/
def materialPuritiesSpec : ChangeSpec := { name := "materialPurities", fn := fun _ => fun
  | [d] => { results := [.lit (.bool true)], args := [d] }
  | _ => none }
def materialPuritiesRow : OpenClaim := { program := "ytghciackhkimoaa", sum := "a7d71a47090b79e3ec005e4634c6354fa9754019a97dff65bd410f7af8ff4b23", func := "recycling/recyclinglaw12.MaterialPurities", spec := "materialPurities", unfollowed := true, recurses := true, apart := false }
def MaterialPuritiesSaid : Prop := materialPuritiesRow.holds Try.pinned (OpenSpec.ofChange materialPuritiesSpec)

/-- ITS FALSE NEIGHBOUR: 'it returns false'. Refute it at one input. -/
def materialPuritiesWrong : ChangeSpec := { name := "materialPurities", fn := fun _ => fun
  | [d] => { results := [.lit (.bool false)], args := [d] }
  | _ => none }
def MaterialPuritiesWrongFalsely : Prop := materialPuritiesRow.holds Try.pinned (OpenSpec.ofChange materialPuritiesWrong)

/- THE SECOND FORM. 'bulk': how many values and letters a reading holds, each counted each time it is reached (what is shared counts as often as it is met; a slice's spare places count too). A statement '..UptoSaid' is the law's where the arguments, and the package variables that the reading takes, are together of bulk at most 1048576: NARROWER than '..Said'. Prove '..Said' where nothing that the law and all that it calls make is longer than what came in: it says more and counts as full. Else prove '..UptoSaid'. A law counts once. -/
mutual
def uptoBulk {H : Type} : DataW H → Nat
  | .lit (.string bytes) => bytes.length + 1
  | .lit _ => 1
  | .nil => 1
  | .ptr d => uptoBulk d + 1
  | .slice elems spare => uptoBulkAll elems + uptoBulkAll spare + 1
  | .agg parts => uptoBulkAll parts + 1
  | .iface _ d => uptoBulk d + 1
  | .map entries => uptoBulkEntries entries + 1
  | .held _ => 1
def uptoBulkAll {H : Type} : List (DataW H) → Nat
  | [] => 0
  | d :: r => uptoBulk d + uptoBulkAll r
def uptoBulkEntries {H : Type} : List (Lit × DataW H) → Nat
  | [] => 0
  | x :: r => uptoBulkEntry x + uptoBulkEntries r
def uptoBulkEntry {H : Type} : Lit × DataW H → Nat
  | (.string bytes, d) => bytes.length + uptoBulk d + 1
  | (_, d) => uptoBulk d + 1
 end
def uptoSmall : (H : Type) → List (DataW H) → Bool := fun _ ds => decide (uptoBulkAll ds ≤ 1048576)
def OpenSpec.upto (s : _root_.Go.ChangeSpec) : _root_.Go.OpenSpec := { _root_.Go.OpenSpec.ofChange s with cond := some uptoSmall }

/-- 'recyclinglaw12.MaterialChecks', WHERE WHAT IT READS IS OF BULK AT MOST 1048576: true; the input reads as it did. -/
def materialChecksUptoRow : OpenClaim := { program := "ytghciackhkimoaa", sum := "a7d71a47090b79e3ec005e4634c6354fa9754019a97dff65bd410f7af8ff4b23", func := "recycling/recyclinglaw12.MaterialChecks", spec := "materialChecks", unfollowed := true, recurses := true, apart := false, narrowed := true }
def MaterialChecksUptoSaid : Prop := materialChecksUptoRow.holds Try.pinned (OpenSpec.upto materialChecksSpec)

/-- 'recyclinglaw12.MaterialAdds', WHERE WHAT IT READS IS OF BULK AT MOST 1048576: true; the input reads as it did. -/
def materialAddsUptoRow : OpenClaim := { program := "ytghciackhkimoaa", sum := "a7d71a47090b79e3ec005e4634c6354fa9754019a97dff65bd410f7af8ff4b23", func := "recycling/recyclinglaw12.MaterialAdds", spec := "materialAdds", unfollowed := true, recurses := true, apart := false, narrowed := true }
def MaterialAddsUptoSaid : Prop := materialAddsUptoRow.holds Try.pinned (OpenSpec.upto materialAddsSpec)

/-- 'recyclinglaw12.MaterialTotals', WHERE WHAT IT READS IS OF BULK AT MOST 1048576: true; the input reads as it did. -/
def materialTotalsUptoRow : OpenClaim := { program := "ytghciackhkimoaa", sum := "a7d71a47090b79e3ec005e4634c6354fa9754019a97dff65bd410f7af8ff4b23", func := "recycling/recyclinglaw12.MaterialTotals", spec := "materialTotals", unfollowed := true, recurses := true, apart := false, narrowed := true }
def MaterialTotalsUptoSaid : Prop := materialTotalsUptoRow.holds Try.pinned (OpenSpec.upto materialTotalsSpec)

/-- 'recyclinglaw12.MaterialLitres', WHERE WHAT IT READS IS OF BULK AT MOST 1048576: true; the input reads as it did. -/
def materialLitresUptoRow : OpenClaim := { program := "ytghciackhkimoaa", sum := "a7d71a47090b79e3ec005e4634c6354fa9754019a97dff65bd410f7af8ff4b23", func := "recycling/recyclinglaw12.MaterialLitres", spec := "materialLitres", unfollowed := true, recurses := true, apart := false, narrowed := true }
def MaterialLitresUptoSaid : Prop := materialLitresUptoRow.holds Try.pinned (OpenSpec.upto materialLitresSpec)

/-- 'recyclinglaw12.MaterialDivides', WHERE WHAT IT READS IS OF BULK AT MOST 1048576: true; the input reads as it did. -/
def materialDividesUptoRow : OpenClaim := { program := "ytghciackhkimoaa", sum := "a7d71a47090b79e3ec005e4634c6354fa9754019a97dff65bd410f7af8ff4b23", func := "recycling/recyclinglaw12.MaterialDivides", spec := "materialDivides", unfollowed := true, recurses := true, apart := false, narrowed := true }
def MaterialDividesUptoSaid : Prop := materialDividesUptoRow.holds Try.pinned (OpenSpec.upto materialDividesSpec)

/-- 'recyclinglaw12.MaterialConserves', WHERE WHAT IT READS IS OF BULK AT MOST 1048576: true; the input reads as it did. -/
def materialConservesUptoRow : OpenClaim := { program := "ytghciackhkimoaa", sum := "a7d71a47090b79e3ec005e4634c6354fa9754019a97dff65bd410f7af8ff4b23", func := "recycling/recyclinglaw12.MaterialConserves", spec := "materialConserves", unfollowed := true, recurses := true, apart := false, narrowed := true }
def MaterialConservesUptoSaid : Prop := materialConservesUptoRow.holds Try.pinned (OpenSpec.upto materialConservesSpec)

/-- 'recyclinglaw12.MaterialBack', WHERE WHAT IT READS IS OF BULK AT MOST 1048576: true; the input reads as it did. -/
def materialBackUptoRow : OpenClaim := { program := "ytghciackhkimoaa", sum := "a7d71a47090b79e3ec005e4634c6354fa9754019a97dff65bd410f7af8ff4b23", func := "recycling/recyclinglaw12.MaterialBack", spec := "materialBack", unfollowed := true, recurses := true, apart := false, narrowed := true }
def MaterialBackUptoSaid : Prop := materialBackUptoRow.holds Try.pinned (OpenSpec.upto materialBackSpec)

/-- 'recyclinglaw12.MaterialPurities', WHERE WHAT IT READS IS OF BULK AT MOST 1048576: true; the input reads as it did. -/
def materialPuritiesUptoRow : OpenClaim := { program := "ytghciackhkimoaa", sum := "a7d71a47090b79e3ec005e4634c6354fa9754019a97dff65bd410f7af8ff4b23", func := "recycling/recyclinglaw12.MaterialPurities", spec := "materialPurities", unfollowed := true, recurses := true, apart := false, narrowed := true }
def MaterialPuritiesUptoSaid : Prop := materialPuritiesUptoRow.holds Try.pinned (OpenSpec.upto materialPuritiesSpec)

end Rows
end Go.Proofs.Ytghciackhkimoaa
