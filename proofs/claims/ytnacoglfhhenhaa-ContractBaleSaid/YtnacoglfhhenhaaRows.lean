/-
  No cell of these rows narrows 'for every input' (looked for: loops, veiled, ifaces, maps, wideKeys, modest, calm, conditions, laid).
  DERIVED. THE GIVEN ROWS OF THIS SEAT. 7 by the template 'for every input the law returns true; each argument reads behind the call as it read before'; 0 by the template 'total and deterministic' (their statements: YtnacoglfhhenhaaTotals.lean).
  GIVEN WITH THE SEED: the statements are not yours to turn. If you find one false, say at which input.
  Laid BY PROGRAM, IN A SANDBOX (cutbox-rows.mjs): the forced cells as the released guide's own fill.sh prints them over the translation f5106245268f17f8… (all of the seat's roots in one cut). By AI agents, Wed Nov 11 2026. No macro, syntax, notation, axiom, sorry.
-/
import Derived.Test.YtnacoglfhhenhaaChecked
import GoSem.Claim
import GoSem.ClaimJoined
import GoSem.ClaimMapViews
import Derived.JoinedTies
import Derived.KernelRfl
namespace Go.Proofs.Ytnacoglfhhenhaa
/- THE CELL 'sum', in the pinned program and in every row, IS THE sha256 OF THE DUMP (.gsa) THAT YtnacoglfhhenhaaProg.lean LOADS. Nothing in Lean hashes anything: it is a label: what it is worth is what the hold of that sum in a sandbox is worth. -/
noncomputable def Try.pinned : Pinned := { name := "ytnacoglfhhenhaa", sum := "f5106245268f17f81f02f6bea245b0bedd7bd38433856dafc13d13fd2691e0ef", checked := Try.checked }
namespace Rows
def none {H : Type} : Left H := { results := [], args := [] }

/-- 'recyclinglaw52.ContractChecks': WHATEVER THE INPUT: true; the input reads as it did. -/
def contractChecksSpec : ChangeSpec := { name := "contractChecks", fn := fun _ => fun
  | [d1, d2] => { results := [.lit (.bool true)], args := [d1, d2] }
  | _ => none }
def contractChecksRow : OpenClaim := { program := "ytnacoglfhhenhaa", sum := "f5106245268f17f81f02f6bea245b0bedd7bd38433856dafc13d13fd2691e0ef", func := "recycling/recyclinglaw52.ContractChecks", spec := "contractChecks", unfollowed := true, recurses := true, apart := false }
def ContractChecksSaid : Prop := contractChecksRow.holds Try.pinned (OpenSpec.ofChange contractChecksSpec)

/-- ITS FALSE NEIGHBOUR: 'it returns false'. Refute it at one input. -/
def contractChecksWrong : ChangeSpec := { name := "contractChecks", fn := fun _ => fun
  | [d1, d2] => { results := [.lit (.bool false)], args := [d1, d2] }
  | _ => none }
def ContractChecksWrongFalsely : Prop := contractChecksRow.holds Try.pinned (OpenSpec.ofChange contractChecksWrong)

/-- 'recyclinglaw52.ContractFits': WHATEVER THE INPUT: true; the input reads as it did. -/
def contractFitsSpec : ChangeSpec := { name := "contractFits", fn := fun _ => fun
  | [d1, d2, d3] => { results := [.lit (.bool true)], args := [d1, d2, d3] }
  | _ => none }
def contractFitsRow : OpenClaim := { program := "ytnacoglfhhenhaa", sum := "f5106245268f17f81f02f6bea245b0bedd7bd38433856dafc13d13fd2691e0ef", func := "recycling/recyclinglaw52.ContractFits", spec := "contractFits", unfollowed := true, recurses := true, apart := false }
def ContractFitsSaid : Prop := contractFitsRow.holds Try.pinned (OpenSpec.ofChange contractFitsSpec)

/-- ITS FALSE NEIGHBOUR: 'it returns false'. Refute it at one input. -/
def contractFitsWrong : ChangeSpec := { name := "contractFits", fn := fun _ => fun
  | [d1, d2, d3] => { results := [.lit (.bool false)], args := [d1, d2, d3] }
  | _ => none }
def ContractFitsWrongFalsely : Prop := contractFitsRow.holds Try.pinned (OpenSpec.ofChange contractFitsWrong)

/-- 'recyclinglaw52.ContractAssigns': WHATEVER THE INPUT: true; the input reads as it did. -/
def contractAssignsSpec : ChangeSpec := { name := "contractAssigns", fn := fun _ => fun
  | [d1, d2, d3] => { results := [.lit (.bool true)], args := [d1, d2, d3] }
  | _ => none }
def contractAssignsRow : OpenClaim := { program := "ytnacoglfhhenhaa", sum := "f5106245268f17f81f02f6bea245b0bedd7bd38433856dafc13d13fd2691e0ef", func := "recycling/recyclinglaw52.ContractAssigns", spec := "contractAssigns", unfollowed := true, recurses := true, apart := false }
def ContractAssignsSaid : Prop := contractAssignsRow.holds Try.pinned (OpenSpec.ofChange contractAssignsSpec)

/-- ITS FALSE NEIGHBOUR: 'it returns false'. Refute it at one input. -/
def contractAssignsWrong : ChangeSpec := { name := "contractAssigns", fn := fun _ => fun
  | [d1, d2, d3] => { results := [.lit (.bool false)], args := [d1, d2, d3] }
  | _ => none }
def ContractAssignsWrongFalsely : Prop := contractAssignsRow.holds Try.pinned (OpenSpec.ofChange contractAssignsWrong)

/-- 'recyclinglaw52.ContractSettles': WHATEVER THE INPUT: true; the input reads as it did. -/
def contractSettlesSpec : ChangeSpec := { name := "contractSettles", fn := fun _ => fun
  | [d1, d2] => { results := [.lit (.bool true)], args := [d1, d2] }
  | _ => none }
def contractSettlesRow : OpenClaim := { program := "ytnacoglfhhenhaa", sum := "f5106245268f17f81f02f6bea245b0bedd7bd38433856dafc13d13fd2691e0ef", func := "recycling/recyclinglaw52.ContractSettles", spec := "contractSettles", unfollowed := true, recurses := true, apart := false }
def ContractSettlesSaid : Prop := contractSettlesRow.holds Try.pinned (OpenSpec.ofChange contractSettlesSpec)

/-- ITS FALSE NEIGHBOUR: 'it returns false'. Refute it at one input. -/
def contractSettlesWrong : ChangeSpec := { name := "contractSettles", fn := fun _ => fun
  | [d1, d2] => { results := [.lit (.bool false)], args := [d1, d2] }
  | _ => none }
def ContractSettlesWrongFalsely : Prop := contractSettlesRow.holds Try.pinned (OpenSpec.ofChange contractSettlesWrong)

/-- 'recyclinglaw52.ContractLeast': WHATEVER THE INPUT: true; the input reads as it did. -/
def contractLeastSpec : ChangeSpec := { name := "contractLeast", fn := fun _ => fun
  | [d1, d2, d3, d4] => { results := [.lit (.bool true)], args := [d1, d2, d3, d4] }
  | _ => none }
def contractLeastRow : OpenClaim := { program := "ytnacoglfhhenhaa", sum := "f5106245268f17f81f02f6bea245b0bedd7bd38433856dafc13d13fd2691e0ef", func := "recycling/recyclinglaw52.ContractLeast", spec := "contractLeast", unfollowed := true, recurses := true, apart := false }
def ContractLeastSaid : Prop := contractLeastRow.holds Try.pinned (OpenSpec.ofChange contractLeastSpec)

/-- ITS FALSE NEIGHBOUR: 'it returns false'. Refute it at one input. -/
def contractLeastWrong : ChangeSpec := { name := "contractLeast", fn := fun _ => fun
  | [d1, d2, d3, d4] => { results := [.lit (.bool false)], args := [d1, d2, d3, d4] }
  | _ => none }
def ContractLeastWrongFalsely : Prop := contractLeastRow.holds Try.pinned (OpenSpec.ofChange contractLeastWrong)

/-- 'recyclinglaw52.ContractMore': WHATEVER THE INPUT: true; the input reads as it did. -/
def contractMoreSpec : ChangeSpec := { name := "contractMore", fn := fun _ => fun
  | [d1, d2, d3] => { results := [.lit (.bool true)], args := [d1, d2, d3] }
  | _ => none }
def contractMoreRow : OpenClaim := { program := "ytnacoglfhhenhaa", sum := "f5106245268f17f81f02f6bea245b0bedd7bd38433856dafc13d13fd2691e0ef", func := "recycling/recyclinglaw52.ContractMore", spec := "contractMore", unfollowed := true, recurses := true, apart := false }
def ContractMoreSaid : Prop := contractMoreRow.holds Try.pinned (OpenSpec.ofChange contractMoreSpec)

/-- ITS FALSE NEIGHBOUR: 'it returns false'. Refute it at one input. -/
def contractMoreWrong : ChangeSpec := { name := "contractMore", fn := fun _ => fun
  | [d1, d2, d3] => { results := [.lit (.bool false)], args := [d1, d2, d3] }
  | _ => none }
def ContractMoreWrongFalsely : Prop := contractMoreRow.holds Try.pinned (OpenSpec.ofChange contractMoreWrong)

/-- 'recyclinglaw52.ContractBale': WHATEVER THE INPUT: true; the input reads as it did. -/
def contractBaleSpec : ChangeSpec := { name := "contractBale", fn := fun _ => fun
  | [d1, d2, d3, d4] => { results := [.lit (.bool true)], args := [d1, d2, d3, d4] }
  | _ => none }
def contractBaleRow : OpenClaim := { program := "ytnacoglfhhenhaa", sum := "f5106245268f17f81f02f6bea245b0bedd7bd38433856dafc13d13fd2691e0ef", func := "recycling/recyclinglaw52.ContractBale", spec := "contractBale", unfollowed := true, recurses := true, apart := false }
def ContractBaleSaid : Prop := contractBaleRow.holds Try.pinned (OpenSpec.ofChange contractBaleSpec)

/-- ITS FALSE NEIGHBOUR: 'it returns false'. Refute it at one input. -/
def contractBaleWrong : ChangeSpec := { name := "contractBale", fn := fun _ => fun
  | [d1, d2, d3, d4] => { results := [.lit (.bool false)], args := [d1, d2, d3, d4] }
  | _ => none }
def ContractBaleWrongFalsely : Prop := contractBaleRow.holds Try.pinned (OpenSpec.ofChange contractBaleWrong)

/- THE SECOND FORM. 'bulk': how many values and letters a reading holds, each counted each time it is reached (what is shared counts as often as it is met; a slice's spare places count too). A statement '..UptoSaid' is the law's where the arguments, and the package variables that the reading takes, are together of bulk at most 1048576: NARROWER than '..Said'. Prove '..Said' where nothing that the law and all that it calls make is longer than what came in: it says more and counts as full. Else prove '..UptoSaid'. A law counts once. -/
mutual
def uptoBulk {H : Type} : DataW H → Nat
  | .lit (.string bytes) => bytes.length + 1
  | .lit _ => 1
  | .nil => 1
  | .ptr d => uptoBulk d + 1
  | .slice elems spare => uptoBulkAll elems + uptoBulkAll spare + 1
  | .agg parts => uptoBulkAll parts + 1
  | .iface _ d => uptoBulk d + 1
  | .map entries => uptoBulkEntries entries + 1
  | .held _ => 1
def uptoBulkAll {H : Type} : List (DataW H) → Nat
  | [] => 0
  | d :: r => uptoBulk d + uptoBulkAll r
def uptoBulkEntries {H : Type} : List (Lit × DataW H) → Nat
  | [] => 0
  | x :: r => uptoBulkEntry x + uptoBulkEntries r
def uptoBulkEntry {H : Type} : Lit × DataW H → Nat
  | (.string bytes, d) => bytes.length + uptoBulk d + 1
  | (_, d) => uptoBulk d + 1
 end
def uptoSmall : (H : Type) → List (DataW H) → Bool := fun _ ds => decide (uptoBulkAll ds ≤ 1048576)
def OpenSpec.upto (s : _root_.Go.ChangeSpec) : _root_.Go.OpenSpec := { _root_.Go.OpenSpec.ofChange s with cond := some uptoSmall }

/-- 'recyclinglaw52.ContractChecks', WHERE WHAT IT READS IS OF BULK AT MOST 1048576: true; the input reads as it did. -/
def contractChecksUptoRow : OpenClaim := { program := "ytnacoglfhhenhaa", sum := "f5106245268f17f81f02f6bea245b0bedd7bd38433856dafc13d13fd2691e0ef", func := "recycling/recyclinglaw52.ContractChecks", spec := "contractChecks", unfollowed := true, recurses := true, apart := false, narrowed := true }
def ContractChecksUptoSaid : Prop := contractChecksUptoRow.holds Try.pinned (OpenSpec.upto contractChecksSpec)

/-- 'recyclinglaw52.ContractFits', WHERE WHAT IT READS IS OF BULK AT MOST 1048576: true; the input reads as it did. -/
def contractFitsUptoRow : OpenClaim := { program := "ytnacoglfhhenhaa", sum := "f5106245268f17f81f02f6bea245b0bedd7bd38433856dafc13d13fd2691e0ef", func := "recycling/recyclinglaw52.ContractFits", spec := "contractFits", unfollowed := true, recurses := true, apart := false, narrowed := true }
def ContractFitsUptoSaid : Prop := contractFitsUptoRow.holds Try.pinned (OpenSpec.upto contractFitsSpec)

/-- 'recyclinglaw52.ContractAssigns', WHERE WHAT IT READS IS OF BULK AT MOST 1048576: true; the input reads as it did. -/
def contractAssignsUptoRow : OpenClaim := { program := "ytnacoglfhhenhaa", sum := "f5106245268f17f81f02f6bea245b0bedd7bd38433856dafc13d13fd2691e0ef", func := "recycling/recyclinglaw52.ContractAssigns", spec := "contractAssigns", unfollowed := true, recurses := true, apart := false, narrowed := true }
def ContractAssignsUptoSaid : Prop := contractAssignsUptoRow.holds Try.pinned (OpenSpec.upto contractAssignsSpec)

/-- 'recyclinglaw52.ContractSettles', WHERE WHAT IT READS IS OF BULK AT MOST 1048576: true; the input reads as it did. -/
def contractSettlesUptoRow : OpenClaim := { program := "ytnacoglfhhenhaa", sum := "f5106245268f17f81f02f6bea245b0bedd7bd38433856dafc13d13fd2691e0ef", func := "recycling/recyclinglaw52.ContractSettles", spec := "contractSettles", unfollowed := true, recurses := true, apart := false, narrowed := true }
def ContractSettlesUptoSaid : Prop := contractSettlesUptoRow.holds Try.pinned (OpenSpec.upto contractSettlesSpec)

/-- 'recyclinglaw52.ContractLeast', WHERE WHAT IT READS IS OF BULK AT MOST 1048576: true; the input reads as it did. -/
def contractLeastUptoRow : OpenClaim := { program := "ytnacoglfhhenhaa", sum := "f5106245268f17f81f02f6bea245b0bedd7bd38433856dafc13d13fd2691e0ef", func := "recycling/recyclinglaw52.ContractLeast", spec := "contractLeast", unfollowed := true, recurses := true, apart := false, narrowed := true }
def ContractLeastUptoSaid : Prop := contractLeastUptoRow.holds Try.pinned (OpenSpec.upto contractLeastSpec)

/-- 'recyclinglaw52.ContractMore', WHERE WHAT IT READS IS OF BULK AT MOST 1048576: true; the input reads as it did. -/
def contractMoreUptoRow : OpenClaim := { program := "ytnacoglfhhenhaa", sum := "f5106245268f17f81f02f6bea245b0bedd7bd38433856dafc13d13fd2691e0ef", func := "recycling/recyclinglaw52.ContractMore", spec := "contractMore", unfollowed := true, recurses := true, apart := false, narrowed := true }
def ContractMoreUptoSaid : Prop := contractMoreUptoRow.holds Try.pinned (OpenSpec.upto contractMoreSpec)

/-- 'recyclinglaw52.ContractBale', WHERE WHAT IT READS IS OF BULK AT MOST 1048576: true; the input reads as it did. -/
def contractBaleUptoRow : OpenClaim := { program := "ytnacoglfhhenhaa", sum := "f5106245268f17f81f02f6bea245b0bedd7bd38433856dafc13d13fd2691e0ef", func := "recycling/recyclinglaw52.ContractBale", spec := "contractBale", unfollowed := true, recurses := true, apart := false, narrowed := true }
def ContractBaleUptoSaid : Prop := contractBaleUptoRow.holds Try.pinned (OpenSpec.upto contractBaleSpec)

end Rows
end Go.Proofs.Ytnacoglfhhenhaa
