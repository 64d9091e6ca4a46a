/-
  No cell of these rows narrows 'for every input' (looked for: loops, veiled, ifaces, maps, wideKeys, modest, calm, conditions, laid).
  DERIVED. THE GIVEN ROWS OF THIS SEAT. 7 by the template 'for every input the law returns true; each argument reads behind the call as it read before'; 0 by the template 'total and deterministic' (their statements: YtddjkmaigifomaaTotals.lean).
  GIVEN WITH THE SEED: the statements are not yours to turn. If you find one false, say at which input.
  Laid BY PROGRAM, IN A SANDBOX (cutbox-rows.mjs): the forced cells as the released guide's own fill.sh prints them over the translation 6acf65b83161c034… (all of the seat's roots in one cut). By AI agents, Wed Nov 11 2026. No macro, syntax, notation, axiom, sorry.
-/
import Derived.Test.YtddjkmaigifomaaChecked
import GoSem.Claim
import GoSem.ClaimJoined
import GoSem.ClaimMapViews
import Derived.JoinedTies
import Derived.KernelRfl
namespace Go.Proofs.Ytddjkmaigifomaa
/- THE CELL 'sum', in the pinned program and in every row, IS THE sha256 OF THE DUMP (.gsa) THAT YtddjkmaigifomaaProg.lean LOADS. Nothing in Lean hashes anything: it is a label: what it is worth is what the hold of that sum in a sandbox is worth. -/
noncomputable def Try.pinned : Pinned := { name := "ytddjkmaigifomaa", sum := "6acf65b83161c0343e4d8ca17e78e7401463ca7d0c781c2b951f781168d7bc76", checked := Try.checked }
namespace Rows
def none {H : Type} : Left H := { results := [], args := [] }

/-- 'recyclinglaw10.MatchChecks': WHATEVER THE INPUT: true; the input reads as it did. -/
def matchChecksSpec : ChangeSpec := { name := "matchChecks", fn := fun _ => fun
  | [d1, d2] => { results := [.lit (.bool true)], args := [d1, d2] }
  | _ => none }
def matchChecksRow : OpenClaim := { program := "ytddjkmaigifomaa", sum := "6acf65b83161c0343e4d8ca17e78e7401463ca7d0c781c2b951f781168d7bc76", func := "recycling/recyclinglaw10.MatchChecks", spec := "matchChecks", apart := false }
def MatchChecksSaid : Prop := matchChecksRow.holds Try.pinned (OpenSpec.ofChange matchChecksSpec)

/-- ITS FALSE NEIGHBOUR: 'it returns false'. Refute it at one input. -/
def matchChecksWrong : ChangeSpec := { name := "matchChecks", fn := fun _ => fun
  | [d1, d2] => { results := [.lit (.bool false)], args := [d1, d2] }
  | _ => none }
def MatchChecksWrongFalsely : Prop := matchChecksRow.holds Try.pinned (OpenSpec.ofChange matchChecksWrong)

/-- 'recyclinglaw10.MatchSolves': WHATEVER THE INPUT: true; the input reads as it did. -/
def matchSolvesSpec : ChangeSpec := { name := "matchSolves", fn := fun _ => fun
  | [d1, d2] => { results := [.lit (.bool true)], args := [d1, d2] }
  | _ => none }
def matchSolvesRow : OpenClaim := { program := "ytddjkmaigifomaa", sum := "6acf65b83161c0343e4d8ca17e78e7401463ca7d0c781c2b951f781168d7bc76", func := "recycling/recyclinglaw10.MatchSolves", spec := "matchSolves", apart := false }
def MatchSolvesSaid : Prop := matchSolvesRow.holds Try.pinned (OpenSpec.ofChange matchSolvesSpec)

/-- ITS FALSE NEIGHBOUR: 'it returns false'. Refute it at one input. -/
def matchSolvesWrong : ChangeSpec := { name := "matchSolves", fn := fun _ => fun
  | [d1, d2] => { results := [.lit (.bool false)], args := [d1, d2] }
  | _ => none }
def MatchSolvesWrongFalsely : Prop := matchSolvesRow.holds Try.pinned (OpenSpec.ofChange matchSolvesWrong)

/-- 'recyclinglaw10.MatchValues': WHATEVER THE INPUT: true; the input reads as it did. -/
def matchValuesSpec : ChangeSpec := { name := "matchValues", fn := fun _ => fun
  | [d1, d2, d3] => { results := [.lit (.bool true)], args := [d1, d2, d3] }
  | _ => none }
def matchValuesRow : OpenClaim := { program := "ytddjkmaigifomaa", sum := "6acf65b83161c0343e4d8ca17e78e7401463ca7d0c781c2b951f781168d7bc76", func := "recycling/recyclinglaw10.MatchValues", spec := "matchValues", apart := false }
def MatchValuesSaid : Prop := matchValuesRow.holds Try.pinned (OpenSpec.ofChange matchValuesSpec)

/-- ITS FALSE NEIGHBOUR: 'it returns false'. Refute it at one input. -/
def matchValuesWrong : ChangeSpec := { name := "matchValues", fn := fun _ => fun
  | [d1, d2, d3] => { results := [.lit (.bool false)], args := [d1, d2, d3] }
  | _ => none }
def MatchValuesWrongFalsely : Prop := matchValuesRow.holds Try.pinned (OpenSpec.ofChange matchValuesWrong)

/-- 'recyclinglaw10.MatchProves': WHATEVER THE INPUT: true; the input reads as it did. -/
def matchProvesSpec : ChangeSpec := { name := "matchProves", fn := fun _ => fun
  | [d] => { results := [.lit (.bool true)], args := [d] }
  | _ => none }
def matchProvesRow : OpenClaim := { program := "ytddjkmaigifomaa", sum := "6acf65b83161c0343e4d8ca17e78e7401463ca7d0c781c2b951f781168d7bc76", func := "recycling/recyclinglaw10.MatchProves", spec := "matchProves", apart := false }
def MatchProvesSaid : Prop := matchProvesRow.holds Try.pinned (OpenSpec.ofChange matchProvesSpec)

/-- ITS FALSE NEIGHBOUR: 'it returns false'. Refute it at one input. -/
def matchProvesWrong : ChangeSpec := { name := "matchProves", fn := fun _ => fun
  | [d] => { results := [.lit (.bool false)], args := [d] }
  | _ => none }
def MatchProvesWrongFalsely : Prop := matchProvesRow.holds Try.pinned (OpenSpec.ofChange matchProvesWrong)

/-- 'recyclinglaw10.MatchOptimal': WHATEVER THE INPUT: true; the input reads as it did. -/
def matchOptimalSpec : ChangeSpec := { name := "matchOptimal", fn := fun _ => fun
  | [d1, d2, d3] => { results := [.lit (.bool true)], args := [d1, d2, d3] }
  | _ => none }
def matchOptimalRow : OpenClaim := { program := "ytddjkmaigifomaa", sum := "6acf65b83161c0343e4d8ca17e78e7401463ca7d0c781c2b951f781168d7bc76", func := "recycling/recyclinglaw10.MatchOptimal", spec := "matchOptimal", apart := false }
def MatchOptimalSaid : Prop := matchOptimalRow.holds Try.pinned (OpenSpec.ofChange matchOptimalSpec)

/-- ITS FALSE NEIGHBOUR: 'it returns false'. Refute it at one input. -/
def matchOptimalWrong : ChangeSpec := { name := "matchOptimal", fn := fun _ => fun
  | [d1, d2, d3] => { results := [.lit (.bool false)], args := [d1, d2, d3] }
  | _ => none }
def MatchOptimalWrongFalsely : Prop := matchOptimalRow.holds Try.pinned (OpenSpec.ofChange matchOptimalWrong)

/-- 'recyclinglaw10.MatchShifts': WHATEVER THE INPUT: true; the input reads as it did. -/
def matchShiftsSpec : ChangeSpec := { name := "matchShifts", fn := fun _ => fun
  | [d1, d2, d3, d4] => { results := [.lit (.bool true)], args := [d1, d2, d3, d4] }
  | _ => none }
def matchShiftsRow : OpenClaim := { program := "ytddjkmaigifomaa", sum := "6acf65b83161c0343e4d8ca17e78e7401463ca7d0c781c2b951f781168d7bc76", func := "recycling/recyclinglaw10.MatchShifts", spec := "matchShifts", apart := false }
def MatchShiftsSaid : Prop := matchShiftsRow.holds Try.pinned (OpenSpec.ofChange matchShiftsSpec)

/-- ITS FALSE NEIGHBOUR: 'it returns false'. Refute it at one input. -/
def matchShiftsWrong : ChangeSpec := { name := "matchShifts", fn := fun _ => fun
  | [d1, d2, d3, d4] => { results := [.lit (.bool false)], args := [d1, d2, d3, d4] }
  | _ => none }
def MatchShiftsWrongFalsely : Prop := matchShiftsRow.holds Try.pinned (OpenSpec.ofChange matchShiftsWrong)

/-- 'recyclinglaw10.MatchDrops': WHATEVER THE INPUT: true; the input reads as it did. -/
def matchDropsSpec : ChangeSpec := { name := "matchDrops", fn := fun _ => fun
  | [d1, d2, d3] => { results := [.lit (.bool true)], args := [d1, d2, d3] }
  | _ => none }
def matchDropsRow : OpenClaim := { program := "ytddjkmaigifomaa", sum := "6acf65b83161c0343e4d8ca17e78e7401463ca7d0c781c2b951f781168d7bc76", func := "recycling/recyclinglaw10.MatchDrops", spec := "matchDrops", apart := false }
def MatchDropsSaid : Prop := matchDropsRow.holds Try.pinned (OpenSpec.ofChange matchDropsSpec)

/-- ITS FALSE NEIGHBOUR: 'it returns false'. Refute it at one input. -/
def matchDropsWrong : ChangeSpec := { name := "matchDrops", fn := fun _ => fun
  | [d1, d2, d3] => { results := [.lit (.bool false)], args := [d1, d2, d3] }
  | _ => none }
def MatchDropsWrongFalsely : Prop := matchDropsRow.holds Try.pinned (OpenSpec.ofChange matchDropsWrong)

/- THE SECOND FORM. 'bulk': how many values and letters a reading holds, each counted each time it is reached (what is shared counts as often as it is met; a slice's spare places count too). A statement '..UptoSaid' is the law's where the arguments, and the package variables that the reading takes, are together of bulk at most 1048576: NARROWER than '..Said'. Prove '..Said' where nothing that the law and all that it calls make is longer than what came in: it says more and counts as full. Else prove '..UptoSaid'. A law counts once. -/
mutual
def uptoBulk {H : Type} : DataW H → Nat
  | .lit (.string bytes) => bytes.length + 1
  | .lit _ => 1
  | .nil => 1
  | .ptr d => uptoBulk d + 1
  | .slice elems spare => uptoBulkAll elems + uptoBulkAll spare + 1
  | .agg parts => uptoBulkAll parts + 1
  | .iface _ d => uptoBulk d + 1
  | .map entries => uptoBulkEntries entries + 1
  | .held _ => 1
def uptoBulkAll {H : Type} : List (DataW H) → Nat
  | [] => 0
  | d :: r => uptoBulk d + uptoBulkAll r
def uptoBulkEntries {H : Type} : List (Lit × DataW H) → Nat
  | [] => 0
  | x :: r => uptoBulkEntry x + uptoBulkEntries r
def uptoBulkEntry {H : Type} : Lit × DataW H → Nat
  | (.string bytes, d) => bytes.length + uptoBulk d + 1
  | (_, d) => uptoBulk d + 1
 end
def uptoSmall : (H : Type) → List (DataW H) → Bool := fun _ ds => decide (uptoBulkAll ds ≤ 1048576)
def OpenSpec.upto (s : _root_.Go.ChangeSpec) : _root_.Go.OpenSpec := { _root_.Go.OpenSpec.ofChange s with cond := some uptoSmall }

/-- 'recyclinglaw10.MatchChecks', WHERE WHAT IT READS IS OF BULK AT MOST 1048576: true; the input reads as it did. -/
def matchChecksUptoRow : OpenClaim := { program := "ytddjkmaigifomaa", sum := "6acf65b83161c0343e4d8ca17e78e7401463ca7d0c781c2b951f781168d7bc76", func := "recycling/recyclinglaw10.MatchChecks", spec := "matchChecks", apart := false, narrowed := true }
def MatchChecksUptoSaid : Prop := matchChecksUptoRow.holds Try.pinned (OpenSpec.upto matchChecksSpec)

/-- 'recyclinglaw10.MatchSolves', WHERE WHAT IT READS IS OF BULK AT MOST 1048576: true; the input reads as it did. -/
def matchSolvesUptoRow : OpenClaim := { program := "ytddjkmaigifomaa", sum := "6acf65b83161c0343e4d8ca17e78e7401463ca7d0c781c2b951f781168d7bc76", func := "recycling/recyclinglaw10.MatchSolves", spec := "matchSolves", apart := false, narrowed := true }
def MatchSolvesUptoSaid : Prop := matchSolvesUptoRow.holds Try.pinned (OpenSpec.upto matchSolvesSpec)

/-- 'recyclinglaw10.MatchValues', WHERE WHAT IT READS IS OF BULK AT MOST 1048576: true; the input reads as it did. -/
def matchValuesUptoRow : OpenClaim := { program := "ytddjkmaigifomaa", sum := "6acf65b83161c0343e4d8ca17e78e7401463ca7d0c781c2b951f781168d7bc76", func := "recycling/recyclinglaw10.MatchValues", spec := "matchValues", apart := false, narrowed := true }
def MatchValuesUptoSaid : Prop := matchValuesUptoRow.holds Try.pinned (OpenSpec.upto matchValuesSpec)

/-- 'recyclinglaw10.MatchProves', WHERE WHAT IT READS IS OF BULK AT MOST 1048576: true; the input reads as it did. -/
def matchProvesUptoRow : OpenClaim := { program := "ytddjkmaigifomaa", sum := "6acf65b83161c0343e4d8ca17e78e7401463ca7d0c781c2b951f781168d7bc76", func := "recycling/recyclinglaw10.MatchProves", spec := "matchProves", apart := false, narrowed := true }
def MatchProvesUptoSaid : Prop := matchProvesUptoRow.holds Try.pinned (OpenSpec.upto matchProvesSpec)

/-- 'recyclinglaw10.MatchOptimal', WHERE WHAT IT READS IS OF BULK AT MOST 1048576: true; the input reads as it did. -/
def matchOptimalUptoRow : OpenClaim := { program := "ytddjkmaigifomaa", sum := "6acf65b83161c0343e4d8ca17e78e7401463ca7d0c781c2b951f781168d7bc76", func := "recycling/recyclinglaw10.MatchOptimal", spec := "matchOptimal", apart := false, narrowed := true }
def MatchOptimalUptoSaid : Prop := matchOptimalUptoRow.holds Try.pinned (OpenSpec.upto matchOptimalSpec)

/-- 'recyclinglaw10.MatchShifts', WHERE WHAT IT READS IS OF BULK AT MOST 1048576: true; the input reads as it did. -/
def matchShiftsUptoRow : OpenClaim := { program := "ytddjkmaigifomaa", sum := "6acf65b83161c0343e4d8ca17e78e7401463ca7d0c781c2b951f781168d7bc76", func := "recycling/recyclinglaw10.MatchShifts", spec := "matchShifts", apart := false, narrowed := true }
def MatchShiftsUptoSaid : Prop := matchShiftsUptoRow.holds Try.pinned (OpenSpec.upto matchShiftsSpec)

/-- 'recyclinglaw10.MatchDrops', WHERE WHAT IT READS IS OF BULK AT MOST 1048576: true; the input reads as it did. -/
def matchDropsUptoRow : OpenClaim := { program := "ytddjkmaigifomaa", sum := "6acf65b83161c0343e4d8ca17e78e7401463ca7d0c781c2b951f781168d7bc76", func := "recycling/recyclinglaw10.MatchDrops", spec := "matchDrops", apart := false, narrowed := true }
def MatchDropsUptoSaid : Prop := matchDropsUptoRow.holds Try.pinned (OpenSpec.upto matchDropsSpec)

end Rows
end Go.Proofs.Ytddjkmaigifomaa
