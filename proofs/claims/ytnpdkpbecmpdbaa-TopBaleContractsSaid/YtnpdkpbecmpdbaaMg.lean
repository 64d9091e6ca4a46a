/-
  match: which potentials prove an assignment.
-/
import Derived.Test.YtnpdkpbecmpdbaaMd
import Derived.Deep.RegionLaw
set_option linter.unusedVariables false
set_option linter.unusedSimpArgs false
namespace Go.Proofs.Ytnpdkpbecmpdbaa
open Go.RowKit

/-- All numbers are amounts of money. -/
def Ins (l : List Int) : Prop := ∀ i, i < l.length → -1000000000000 ≤ ix l i ∧ ix l i ≤ 1000000000000

def InsRes (l : List Int) (w : World) (e : Ending) (w' : World) : Prop := ∃ r : Bool, e = .returned (.bool r) ∧ (r = true ↔ Ins l) ∧ w = w'
theorem valM_prob {C : List (List Int)} {sk cols : List Int} (h : (valM C sk cols).2 = 0) : chkM C sk = 0 ∧ cols.length = C.length ∧ (∀ i, i < C.length → errV (rx C 0).length C cols i = 0) ∧ (valM C sk cols).1 = sumR C.length (costV C sk cols) := by
  unfold valM at h ⊢
  by_cases h1 : chkM C sk ≠ 0
  · rw [if_pos h1] at h; exact absurd h h1
  rw [if_neg h1] at h ⊢
  by_cases h2 : cols.length ≠ C.length
  · rw [if_pos h2] at h; cases h
  rw [if_neg h2] at h ⊢
  by_cases h3 : firstE (errV (rx C 0).length C cols) C.length ≠ 0
  · rw [if_pos h3] at h; exact absurd h h3
  rw [if_neg h3]
  exact ⟨by omega, by omega, firstE_ok (by omega), rfl⟩

/-- The potentials U, V prove that the assignment cols costs t, and none less. -/
structure ProOk (C : List (List Int)) (sk cols : List Int) (t : Int) (U V : List Int) : Prop where
  err : (valM C sk cols).2 = 0
  val : (valM C sk cols).1 = t
  lU : U.length = C.length
  lV : V.length = (rx C 0).length
  iU : Ins U
  iV : Ins V
  v0 : ∀ j, j < (rx C 0).length → ix V j ≤ 0
  uS : ∀ i, i < C.length → ix U i ≤ ix sk i
  uv : ∀ i, i < C.length → ∀ j, j < (rx C 0).length → ix (rx C i) j ≠ -1 → ix U i + ix V j ≤ ix (rx C i) j
  sum : sumR (rx C 0).length (ix V) + sumR C.length (ix U) = t

def BoolIs (P : Prop) (w : World) (e : Ending) (w' : World) : Prop := ∃ r : Bool, e = .returned (.bool r) ∧ (r = true ↔ P) ∧ Mod NoBlock w w'
theorem BoolIs.no {P : Prop} {w w' : World} (h : ¬ P) (hm : Mod NoBlock w w') : BoolIs P w (.returned (.bool false)) w' := ⟨false, rfl, ⟨fun h => (by cases h), fun hp => absurd hp h⟩, hm⟩
theorem BoolIs.yes {P : Prop} {w w' : World} (h : P) (hm : Mod NoBlock w w') : BoolIs P w (.returned (.bool true)) w' := ⟨true, rfl, ⟨fun _ => h, fun _ => rfl⟩, hm⟩
theorem Ins.sum {l : List Int} (h : Ins l) : ∀ q, q ≤ l.length → -(1000000000000 * (q : Int)) ≤ sumR q (ix l) ∧ sumR q (ix l) ≤ 1000000000000 * (q : Int)
  | 0, _ => by simp [sumR]
  | q + 1, hq => by
    obtain ⟨h1, h2⟩ := Ins.sum h q (by omega)
    have := h q (by omega)
    unfold sumR
    omega

/-- What the code looks at first. -/
def PreP (C : List (List Int)) (sk cols : List Int) (t : Int) (U V : List Int) : Prop := (valM C sk cols).2 = 0 ∧ (valM C sk cols).1 = t ∧ U.length = C.length ∧ V.length = (rx C 0).length ∧ Ins U ∧ Ins V
theorem ProOk.pre {C : List (List Int)} {sk cols : List Int} {t : Int} {U V : List Int} (h : ProOk C sk cols t U V) : PreP C sk cols t U V := ⟨h.err, h.val, h.lU, h.lV, h.iU, h.iV⟩

end Go.Proofs.Ytnpdkpbecmpdbaa
