/-
  match: what Proves and Solve answer, for laws.
-/
import Derived.Test.YtddjkmaigifomaaMm
import Derived.Test.YtddjkmaigifomaaMn
import Derived.Test.YtddjkmaigifomaaMh
set_option linter.unusedVariables false
set_option linter.unusedSimpArgs false
namespace Go.Proofs.Ytddjkmaigifomaa
open Go.RowKit

theorem proves_any {D E F G H9 : Nat → Prop} {w : World} {a b aC aU aV : Option Addr} {c d cC cU cV : Nat} {t : Int} {C : List (List Int)} {sk cols U V : List Int} (h : Mixes D w a C) (hs : Ints E w b sk) (hc : Ints F w aC cols) (hU : Ints G w aU U) (hV : Ints H9 w aV V) :
    Calls Try.prog 20 #[.slice a C.length c, .slice b sk.length d, .agg #[.slice aC cols.length cC, .int .i64 t, .slice aU U.length cU, .slice aV V.length cV]] w (BoolIs (ProOk C sk cols t U V) w) := by
  by_cases hp : PreP C sk cols t U V
  · exact proves_ok h hs hc hU hV hp
  · exact proves_no h hs hc hU hV hp

/-- The result of a problem without fault. -/
structure Sol (C : List (List Int)) (sk : List Int) (n k : Nat) (t : Int) (wf : Nat → Nat) (cols U V : List Int) : Prop where
  first : First (tabM C sk k) n k t wf
  eC : cols = rowI n (colZ k wf)
  lC : cols.length = n
  lU : U.length = n
  lV : V.length = k
  pr : ProOk C sk cols t U V
  val : valM C sk cols = (t, 0)

def SolRes (C : List (List Int)) (sk : List Int) (n k : Nat) (w : World) (e : Ending) (w' : World) : Prop :=
  ∃ (t : Int) (wf : Nat → Nat) (cols U V : List Int) (aC : Option Addr) (cC : Nat) (aU : Option Addr) (cU : Nat) (aV : Option Addr) (cV : Nat),
    e = .returned (.tuple #[.agg #[.slice aC n cC, .int .i64 t, .slice aU n cU, .slice aV k cV], .int .i64 0]) ∧ Mod NoBlock w w' ∧ Sol C sk n k t wf cols U V ∧
    Ints (fun b => w.heap.size ≤ b) w' aC cols ∧ Ints (fun b => w.heap.size ≤ b) w' aU U ∧ Ints (fun b => w.heap.size ≤ b) w' aV V

theorem solve_sol {D E : Nat → Prop} {w : World} {a b : Option Addr} {c d n k : Nat} {C : List (List Int)} {sk : List Int} (h : Mixes D w a C) (hs : Ints E w b sk) (hok : chkM C sk = 0) (hn : C.length = n) (hk : (rx C 0).length = k) :
    Calls Try.prog 14 #[.slice a n c, .slice b n d] w (SolRes C sk n k w) := by
  have hp := probOk hok
  rw [hn, hk] at hp
  refine (solve_ok (c := c) (d := d) h hs hok hn hk).mono ?_
  rintro e w' ⟨t, wf, u, v, aC, cC, aU, cU, aV, cV, rfl, hm, hF, ho, hC, hU, hV⟩
  exact ⟨t, wf, _, _, _, aC, cC, aU, cU, aV, cV, rfl, hm, ⟨hF, rfl, rowI_length _ _, rowI_length _ _, rowI_length _ _, hF.proves hp hok hn hk ho, hF.val hp hok hn hk⟩, hC, hU, hV⟩

end Go.Proofs.Ytddjkmaigifomaa
