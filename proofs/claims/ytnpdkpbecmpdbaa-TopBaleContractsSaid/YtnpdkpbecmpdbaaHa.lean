/-
  match: the search for a column, plainly: one step of a path, and what it keeps.
-/
import Derived.Test.YtnpdkpbecmpdbaaMem
set_option linter.unusedVariables false
set_option linter.unusedSimpArgs false
namespace Go.Proofs.Ytnpdkpbecmpdbaa
open Go.RowKit

/-- A search: potentials, slacks, the column before each, the used columns, the column it stands at. -/
structure PS where
  u : Nat → Int
  v : Nat → Int
  sl : Nat → Int
  fr : Nat → Nat
  us : Nat → Bool
  at_ : Nat

def redC (c : Nat → Nat → Int) (u v : Nat → Int) (r j : Nat) : Int := c r j - u r - v j
def markU (s : PS) (j : Nat) : Bool := if j = s.at_ then true else s.us j
def newSl (c : Nat → Nat → Int) (s : PS) (r j : Nat) : Int := if markU s j then s.sl j else if redC c s.u s.v r j < s.sl j then redC c s.u s.v r j else s.sl j
def newFr (c : Nat → Nat → Int) (s : PS) (r j : Nat) : Nat := if markU s j then s.fr j else if redC c s.u s.v r j < s.sl j then s.at_ else s.fr j
/-- The least slack of the first k unused columns, and the first column that has it. -/
def bestS (us : Nat → Bool) (sl : Nat → Int) (inf : Int) : Nat → Int × Nat
  | 0 => (inf, 0)
  | k + 1 => if us (k + 1) = false ∧ sl (k + 1) < (bestS us sl inf k).1 then (sl (k + 1), k + 1) else bestS us sl inf k
/-- The potentials of rows, when the first k columns are done. -/
def addU (us : Nat → Bool) (row : Nat → Nat) (d : Int) (u : Nat → Int) : Nat → Nat → Int
  | 0 => u
  | k + 1 => if us k then fun r => if r = row k then addU us row d u k r + d else addU us row d u k r else addU us row d u k
def stepP (c : Nat → Nat → Int) (K : Nat) (inf : Int) (row : Nat → Nat) (s : PS) : PS :=
  let d := (bestS (markU s) (newSl c s (row s.at_)) inf K).1
  { u := addU (markU s) row d s.u (K + 1), v := fun j => if markU s j then s.v j - d else s.v j,
    sl := fun j => if markU s j then newSl c s (row s.at_) j else newSl c s (row s.at_) j - d,
    fr := newFr c s (row s.at_), us := markU s, at_ := (bestS (markU s) (newSl c s (row s.at_)) inf K).2 }

theorem bestS_spec {us : Nat → Bool} {sl : Nat → Int} {inf : Int} : ∀ {k : Nat}, (∀ j, 1 ≤ j → j ≤ k → us j = false → (bestS us sl inf k).1 ≤ sl j) ∧ (bestS us sl inf k).1 ≤ inf ∧
    ((bestS us sl inf k).2 = 0 → (bestS us sl inf k).1 = inf) ∧ ((bestS us sl inf k).2 ≠ 0 → (bestS us sl inf k).2 ≤ k ∧ us (bestS us sl inf k).2 = false ∧ sl (bestS us sl inf k).2 = (bestS us sl inf k).1)
  | 0 => ⟨fun j h1 h2 => absurd h2 (by omega), Int.le_refl _, fun _ => rfl, fun h => absurd rfl h⟩
  | k + 1 => by
    obtain ⟨h1, h2, h3, h4⟩ := bestS_spec (us := us) (sl := sl) (inf := inf) (k := k)
    unfold bestS
    by_cases hc : us (k + 1) = false ∧ sl (k + 1) < (bestS us sl inf k).1
    · rw [if_pos hc]
      refine ⟨fun j g1 g2 g3 => ?_, by show sl (k + 1) ≤ inf; omega, fun h => absurd h (by show ¬ k + 1 = 0; omega), fun _ => ⟨Nat.le_refl _, hc.1, rfl⟩⟩
      by_cases hj : j = k + 1
      · subst hj; exact Int.le_refl _
      · have := h1 j g1 (by omega) g3
        show sl (k + 1) ≤ sl j
        omega
    · rw [if_neg hc]
      refine ⟨fun j g1 g2 g3 => ?_, h2, h3, fun h => ⟨Nat.le_succ_of_le (h4 h).1, (h4 h).2⟩⟩
      by_cases hj : j = k + 1
      · subst hj
        exact Int.not_lt.1 fun hl => hc ⟨g3, hl⟩
      · exact h1 j g1 (by omega) g3
/-- A row of a used column gets the step once. -/
theorem addU_spec {us : Nat → Bool} {row : Nat → Nat} {d : Int} {u : Nat → Int} {k : Nat} (hi : ∀ j j', us j = true → us j' = true → row j = row j' → j = j') (r : Nat) :
    addU us row d u k r = u r + if ∃ j, j < k ∧ us j = true ∧ row j = r then d else 0 := by
  induction k with
  | zero =>
    rw [if_neg (by rintro ⟨j, h, _⟩; omega)]
    show u r = u r + 0
    omega
  | succ k ih =>
    unfold addU
    by_cases hk : us k = true
    · rw [if_pos hk]
      show (if r = row k then _ else _) = _
      by_cases hr : r = row k
      · rw [if_pos hr, ih, if_neg, if_pos ⟨k, by omega, hk, hr.symm⟩]
        · omega
        · rintro ⟨j, h1, h2, h3⟩
          have := hi j k h2 hk (h3.trans hr)
          omega
      · rw [if_neg hr, ih]
        by_cases he : ∃ j, j < k ∧ us j = true ∧ row j = r
        · obtain ⟨j, h1, h2, h3⟩ := he
          rw [if_pos ⟨j, h1, h2, h3⟩, if_pos ⟨j, by omega, h2, h3⟩]
        · rw [if_neg he, if_neg]
          rintro ⟨j, h1, h2, h3⟩
          by_cases hjk : j = k
          · subst hjk; exact hr h3.symm
          · exact he ⟨j, by omega, h2, h3⟩
    · rw [if_neg hk, ih]
      by_cases he : ∃ j, j < k ∧ us j = true ∧ row j = r
      · obtain ⟨j, h1, h2, h3⟩ := he
        rw [if_pos ⟨j, h1, h2, h3⟩, if_pos ⟨j, by omega, h2, h3⟩]
      · rw [if_neg he, if_neg]
        rintro ⟨j, h1, h2, h3⟩
        by_cases hjk : j = k
        · subst hjk; exact hk h2
        · exact he ⟨j, by omega, h2, h3⟩

/-- What potentials keep: n rows, K columns, an assignment 'row' of columns (0: free). -/
structure Pot (c : Nat → Nat → Int) (n K : Nat) (row : Nat → Nat) (u v : Nat → Int) : Prop where
  feas : ∀ r, 1 ≤ r → r ≤ n → ∀ j, 1 ≤ j → j ≤ K → 0 ≤ redC c u v r j
  tight : ∀ j, 1 ≤ j → j ≤ K → row j ≠ 0 → redC c u v (row j) j = 0
  v0 : ∀ j, 1 ≤ j → j ≤ K → v j ≤ 0
  vfree : ∀ j, 1 ≤ j → j ≤ K → row j = 0 → v j = 0
  u0 : ∀ r, 0 ≤ u r

end Go.Proofs.Ytnpdkpbecmpdbaa
