/-
  No cell of these rows narrows 'for every input' (looked for: loops, veiled, ifaces, maps, wideKeys, modest, calm, conditions, laid).
  DERIVED. THE GIVEN ROWS OF THIS SEAT. 7 by the template 'for every input the law returns true; each argument reads behind the call as it read before'; 0 by the template 'total and deterministic' (their statements: YtoneoeckilaglaaTotals.lean).
  GIVEN WITH THE SEED: the statements are not yours to turn. If you find one false, say at which input.
  Laid BY PROGRAM, IN A SANDBOX (cutbox-rows.mjs): the forced cells as the released guide's own fill.sh prints them over the translation a35836b9884665ad… (all of the seat's roots in one cut). By AI agents, Wed Nov 11 2026. No macro, syntax, notation, axiom, sorry.
-/
import Derived.Test.YtoneoeckilaglaaChecked
import GoSem.Claim
import GoSem.ClaimJoined
import GoSem.ClaimMapViews
import Derived.JoinedTies
import Derived.KernelRfl
namespace Go.Proofs.Ytoneoeckilaglaa
/- THE CELL 'sum', in the pinned program and in every row, IS THE sha256 OF THE DUMP (.gsa) THAT YtoneoeckilaglaaProg.lean LOADS. Nothing in Lean hashes anything: it is a label: what it is worth is what the hold of that sum in a sandbox is worth. -/
noncomputable def Try.pinned : Pinned := { name := "ytoneoeckilaglaa", sum := "a35836b9884665adf798392485b4100dcf5a94f351f4dd32f3947de6e1e2db39", checked := Try.checked }
namespace Rows
def none {H : Type} : Left H := { results := [], args := [] }

/-- 'recyclinglaw50.GradeChecks': WHATEVER THE INPUT: true; the input reads as it did. -/
def gradeChecksSpec : ChangeSpec := { name := "gradeChecks", fn := fun _ => fun
  | [d1, d2, d3] => { results := [.lit (.bool true)], args := [d1, d2, d3] }
  | _ => none }
def gradeChecksRow : OpenClaim := { program := "ytoneoeckilaglaa", sum := "a35836b9884665adf798392485b4100dcf5a94f351f4dd32f3947de6e1e2db39", func := "recycling/recyclinglaw50.GradeChecks", spec := "gradeChecks", unfollowed := true, recurses := true, apart := false }
def GradeChecksSaid : Prop := gradeChecksRow.holds Try.pinned (OpenSpec.ofChange gradeChecksSpec)

/-- ITS FALSE NEIGHBOUR: 'it returns false'. Refute it at one input. -/
def gradeChecksWrong : ChangeSpec := { name := "gradeChecks", fn := fun _ => fun
  | [d1, d2, d3] => { results := [.lit (.bool false)], args := [d1, d2, d3] }
  | _ => none }
def GradeChecksWrongFalsely : Prop := gradeChecksRow.holds Try.pinned (OpenSpec.ofChange gradeChecksWrong)

/-- 'recyclinglaw50.GradeOfs': WHATEVER THE INPUT: true; the input reads as it did. -/
def gradeOfsSpec : ChangeSpec := { name := "gradeOfs", fn := fun _ => fun
  | [d1, d2, d3] => { results := [.lit (.bool true)], args := [d1, d2, d3] }
  | _ => none }
def gradeOfsRow : OpenClaim := { program := "ytoneoeckilaglaa", sum := "a35836b9884665adf798392485b4100dcf5a94f351f4dd32f3947de6e1e2db39", func := "recycling/recyclinglaw50.GradeOfs", spec := "gradeOfs", unfollowed := true, recurses := true, apart := false }
def GradeOfsSaid : Prop := gradeOfsRow.holds Try.pinned (OpenSpec.ofChange gradeOfsSpec)

/-- ITS FALSE NEIGHBOUR: 'it returns false'. Refute it at one input. -/
def gradeOfsWrong : ChangeSpec := { name := "gradeOfs", fn := fun _ => fun
  | [d1, d2, d3] => { results := [.lit (.bool false)], args := [d1, d2, d3] }
  | _ => none }
def GradeOfsWrongFalsely : Prop := gradeOfsRow.holds Try.pinned (OpenSpec.ofChange gradeOfsWrong)

/-- 'recyclinglaw50.GradePrices': WHATEVER THE INPUT: true; the input reads as it did. -/
def gradePricesSpec : ChangeSpec := { name := "gradePrices", fn := fun _ => fun
  | [d1, d2, d3] => { results := [.lit (.bool true)], args := [d1, d2, d3] }
  | _ => none }
def gradePricesRow : OpenClaim := { program := "ytoneoeckilaglaa", sum := "a35836b9884665adf798392485b4100dcf5a94f351f4dd32f3947de6e1e2db39", func := "recycling/recyclinglaw50.GradePrices", spec := "gradePrices", unfollowed := true, recurses := true, apart := false }
def GradePricesSaid : Prop := gradePricesRow.holds Try.pinned (OpenSpec.ofChange gradePricesSpec)

/-- ITS FALSE NEIGHBOUR: 'it returns false'. Refute it at one input. -/
def gradePricesWrong : ChangeSpec := { name := "gradePrices", fn := fun _ => fun
  | [d1, d2, d3] => { results := [.lit (.bool false)], args := [d1, d2, d3] }
  | _ => none }
def GradePricesWrongFalsely : Prop := gradePricesRow.holds Try.pinned (OpenSpec.ofChange gradePricesWrong)

/-- 'recyclinglaw50.GradeWorths': WHATEVER THE INPUT: true; the input reads as it did. -/
def gradeWorthsSpec : ChangeSpec := { name := "gradeWorths", fn := fun _ => fun
  | [d1, d2, d3] => { results := [.lit (.bool true)], args := [d1, d2, d3] }
  | _ => none }
def gradeWorthsRow : OpenClaim := { program := "ytoneoeckilaglaa", sum := "a35836b9884665adf798392485b4100dcf5a94f351f4dd32f3947de6e1e2db39", func := "recycling/recyclinglaw50.GradeWorths", spec := "gradeWorths", unfollowed := true, recurses := true, apart := false }
def GradeWorthsSaid : Prop := gradeWorthsRow.holds Try.pinned (OpenSpec.ofChange gradeWorthsSpec)

/-- ITS FALSE NEIGHBOUR: 'it returns false'. Refute it at one input. -/
def gradeWorthsWrong : ChangeSpec := { name := "gradeWorths", fn := fun _ => fun
  | [d1, d2, d3] => { results := [.lit (.bool false)], args := [d1, d2, d3] }
  | _ => none }
def GradeWorthsWrongFalsely : Prop := gradeWorthsRow.holds Try.pinned (OpenSpec.ofChange gradeWorthsWrong)

/-- 'recyclinglaw50.GradeMonotone': WHATEVER THE INPUT: true; the input reads as it did. -/
def gradeMonotoneSpec : ChangeSpec := { name := "gradeMonotone", fn := fun _ => fun
  | [d1, d2, d3, d4] => { results := [.lit (.bool true)], args := [d1, d2, d3, d4] }
  | _ => none }
def gradeMonotoneRow : OpenClaim := { program := "ytoneoeckilaglaa", sum := "a35836b9884665adf798392485b4100dcf5a94f351f4dd32f3947de6e1e2db39", func := "recycling/recyclinglaw50.GradeMonotone", spec := "gradeMonotone", unfollowed := true, recurses := true, apart := false }
def GradeMonotoneSaid : Prop := gradeMonotoneRow.holds Try.pinned (OpenSpec.ofChange gradeMonotoneSpec)

/-- ITS FALSE NEIGHBOUR: 'it returns false'. Refute it at one input. -/
def gradeMonotoneWrong : ChangeSpec := { name := "gradeMonotone", fn := fun _ => fun
  | [d1, d2, d3, d4] => { results := [.lit (.bool false)], args := [d1, d2, d3, d4] }
  | _ => none }
def GradeMonotoneWrongFalsely : Prop := gradeMonotoneRow.holds Try.pinned (OpenSpec.ofChange gradeMonotoneWrong)

/-- 'recyclinglaw50.GradeDearer': WHATEVER THE INPUT: true; the input reads as it did. -/
def gradeDearerSpec : ChangeSpec := { name := "gradeDearer", fn := fun _ => fun
  | [d1, d2, d3, d4] => { results := [.lit (.bool true)], args := [d1, d2, d3, d4] }
  | _ => none }
def gradeDearerRow : OpenClaim := { program := "ytoneoeckilaglaa", sum := "a35836b9884665adf798392485b4100dcf5a94f351f4dd32f3947de6e1e2db39", func := "recycling/recyclinglaw50.GradeDearer", spec := "gradeDearer", unfollowed := true, recurses := true, apart := false }
def GradeDearerSaid : Prop := gradeDearerRow.holds Try.pinned (OpenSpec.ofChange gradeDearerSpec)

/-- ITS FALSE NEIGHBOUR: 'it returns false'. Refute it at one input. -/
def gradeDearerWrong : ChangeSpec := { name := "gradeDearer", fn := fun _ => fun
  | [d1, d2, d3, d4] => { results := [.lit (.bool false)], args := [d1, d2, d3, d4] }
  | _ => none }
def GradeDearerWrongFalsely : Prop := gradeDearerRow.holds Try.pinned (OpenSpec.ofChange gradeDearerWrong)

/-- 'recyclinglaw50.GradeFewer': WHATEVER THE INPUT: true; the input reads as it did. -/
def gradeFewerSpec : ChangeSpec := { name := "gradeFewer", fn := fun _ => fun
  | [d1, d2, d3] => { results := [.lit (.bool true)], args := [d1, d2, d3] }
  | _ => none }
def gradeFewerRow : OpenClaim := { program := "ytoneoeckilaglaa", sum := "a35836b9884665adf798392485b4100dcf5a94f351f4dd32f3947de6e1e2db39", func := "recycling/recyclinglaw50.GradeFewer", spec := "gradeFewer", unfollowed := true, recurses := true, apart := false }
def GradeFewerSaid : Prop := gradeFewerRow.holds Try.pinned (OpenSpec.ofChange gradeFewerSpec)

/-- ITS FALSE NEIGHBOUR: 'it returns false'. Refute it at one input. -/
def gradeFewerWrong : ChangeSpec := { name := "gradeFewer", fn := fun _ => fun
  | [d1, d2, d3] => { results := [.lit (.bool false)], args := [d1, d2, d3] }
  | _ => none }
def GradeFewerWrongFalsely : Prop := gradeFewerRow.holds Try.pinned (OpenSpec.ofChange gradeFewerWrong)

/- THE SECOND FORM. 'bulk': how many values and letters a reading holds, each counted each time it is reached (what is shared counts as often as it is met; a slice's spare places count too). A statement '..UptoSaid' is the law's where the arguments, and the package variables that the reading takes, are together of bulk at most 1048576: NARROWER than '..Said'. Prove '..Said' where nothing that the law and all that it calls make is longer than what came in: it says more and counts as full. Else prove '..UptoSaid'. A law counts once. -/
mutual
def uptoBulk {H : Type} : DataW H → Nat
  | .lit (.string bytes) => bytes.length + 1
  | .lit _ => 1
  | .nil => 1
  | .ptr d => uptoBulk d + 1
  | .slice elems spare => uptoBulkAll elems + uptoBulkAll spare + 1
  | .agg parts => uptoBulkAll parts + 1
  | .iface _ d => uptoBulk d + 1
  | .map entries => uptoBulkEntries entries + 1
  | .held _ => 1
def uptoBulkAll {H : Type} : List (DataW H) → Nat
  | [] => 0
  | d :: r => uptoBulk d + uptoBulkAll r
def uptoBulkEntries {H : Type} : List (Lit × DataW H) → Nat
  | [] => 0
  | x :: r => uptoBulkEntry x + uptoBulkEntries r
def uptoBulkEntry {H : Type} : Lit × DataW H → Nat
  | (.string bytes, d) => bytes.length + uptoBulk d + 1
  | (_, d) => uptoBulk d + 1
 end
def uptoSmall : (H : Type) → List (DataW H) → Bool := fun _ ds => decide (uptoBulkAll ds ≤ 1048576)
def OpenSpec.upto (s : _root_.Go.ChangeSpec) : _root_.Go.OpenSpec := { _root_.Go.OpenSpec.ofChange s with cond := some uptoSmall }

/-- 'recyclinglaw50.GradeChecks', WHERE WHAT IT READS IS OF BULK AT MOST 1048576: true; the input reads as it did. -/
def gradeChecksUptoRow : OpenClaim := { program := "ytoneoeckilaglaa", sum := "a35836b9884665adf798392485b4100dcf5a94f351f4dd32f3947de6e1e2db39", func := "recycling/recyclinglaw50.GradeChecks", spec := "gradeChecks", unfollowed := true, recurses := true, apart := false, narrowed := true }
def GradeChecksUptoSaid : Prop := gradeChecksUptoRow.holds Try.pinned (OpenSpec.upto gradeChecksSpec)

/-- 'recyclinglaw50.GradeOfs', WHERE WHAT IT READS IS OF BULK AT MOST 1048576: true; the input reads as it did. -/
def gradeOfsUptoRow : OpenClaim := { program := "ytoneoeckilaglaa", sum := "a35836b9884665adf798392485b4100dcf5a94f351f4dd32f3947de6e1e2db39", func := "recycling/recyclinglaw50.GradeOfs", spec := "gradeOfs", unfollowed := true, recurses := true, apart := false, narrowed := true }
def GradeOfsUptoSaid : Prop := gradeOfsUptoRow.holds Try.pinned (OpenSpec.upto gradeOfsSpec)

/-- 'recyclinglaw50.GradePrices', WHERE WHAT IT READS IS OF BULK AT MOST 1048576: true; the input reads as it did. -/
def gradePricesUptoRow : OpenClaim := { program := "ytoneoeckilaglaa", sum := "a35836b9884665adf798392485b4100dcf5a94f351f4dd32f3947de6e1e2db39", func := "recycling/recyclinglaw50.GradePrices", spec := "gradePrices", unfollowed := true, recurses := true, apart := false, narrowed := true }
def GradePricesUptoSaid : Prop := gradePricesUptoRow.holds Try.pinned (OpenSpec.upto gradePricesSpec)

/-- 'recyclinglaw50.GradeWorths', WHERE WHAT IT READS IS OF BULK AT MOST 1048576: true; the input reads as it did. -/
def gradeWorthsUptoRow : OpenClaim := { program := "ytoneoeckilaglaa", sum := "a35836b9884665adf798392485b4100dcf5a94f351f4dd32f3947de6e1e2db39", func := "recycling/recyclinglaw50.GradeWorths", spec := "gradeWorths", unfollowed := true, recurses := true, apart := false, narrowed := true }
def GradeWorthsUptoSaid : Prop := gradeWorthsUptoRow.holds Try.pinned (OpenSpec.upto gradeWorthsSpec)

/-- 'recyclinglaw50.GradeMonotone', WHERE WHAT IT READS IS OF BULK AT MOST 1048576: true; the input reads as it did. -/
def gradeMonotoneUptoRow : OpenClaim := { program := "ytoneoeckilaglaa", sum := "a35836b9884665adf798392485b4100dcf5a94f351f4dd32f3947de6e1e2db39", func := "recycling/recyclinglaw50.GradeMonotone", spec := "gradeMonotone", unfollowed := true, recurses := true, apart := false, narrowed := true }
def GradeMonotoneUptoSaid : Prop := gradeMonotoneUptoRow.holds Try.pinned (OpenSpec.upto gradeMonotoneSpec)

/-- 'recyclinglaw50.GradeDearer', WHERE WHAT IT READS IS OF BULK AT MOST 1048576: true; the input reads as it did. -/
def gradeDearerUptoRow : OpenClaim := { program := "ytoneoeckilaglaa", sum := "a35836b9884665adf798392485b4100dcf5a94f351f4dd32f3947de6e1e2db39", func := "recycling/recyclinglaw50.GradeDearer", spec := "gradeDearer", unfollowed := true, recurses := true, apart := false, narrowed := true }
def GradeDearerUptoSaid : Prop := gradeDearerUptoRow.holds Try.pinned (OpenSpec.upto gradeDearerSpec)

/-- 'recyclinglaw50.GradeFewer', WHERE WHAT IT READS IS OF BULK AT MOST 1048576: true; the input reads as it did. -/
def gradeFewerUptoRow : OpenClaim := { program := "ytoneoeckilaglaa", sum := "a35836b9884665adf798392485b4100dcf5a94f351f4dd32f3947de6e1e2db39", func := "recycling/recyclinglaw50.GradeFewer", spec := "gradeFewer", unfollowed := true, recurses := true, apart := false, narrowed := true }
def GradeFewerUptoSaid : Prop := gradeFewerUptoRow.holds Try.pinned (OpenSpec.upto gradeFewerSpec)

end Rows
end Go.Proofs.Ytoneoeckilaglaa
