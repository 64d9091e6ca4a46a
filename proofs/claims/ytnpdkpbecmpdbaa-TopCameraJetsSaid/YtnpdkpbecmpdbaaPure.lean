/-
  What the functions of material and the references compute, in plain Lean.
-/
import Derived.Test.YtnpdkpbecmpdbaaMem
set_option linter.unusedVariables false
set_option linter.unusedSimpArgs false
namespace Go.Proofs.Ytnpdkpbecmpdbaa

/-- A mass that is no mass. -/
def badMass (n : Int) : Bool := decide (n < 0) || decide (1073741824 < n)

/-- The place of the first number that is no mass, counted from k on; -1 if there is none. -/
def badAt (l : List Int) (k : Int) : Int := match l with | [] => -1 | x :: r => if badMass x then k else badAt r (k + 1)
theorem badAt_bound (l : List Int) (k : Int) (hk : 0 ≤ k) : (badAt l k = -1 ∧ l.any badMass = false) ∨ (0 ≤ badAt l k ∧ l.any badMass = true) := by
  induction l generalizing k with
  | nil => exact .inl ⟨rfl, rfl⟩
  | cons x r ih =>
    unfold badAt
    cases hb : badMass x
    · simpa [hb] using ih (k + 1) (by omega)
    · right; simp [hb, hk]

/-- The error of a mix. -/
def faultL (l : List Int) : Int := if 16 < l.length then 18 else if l.any badMass then 1 else 0
/-- The first error of some mixes. -/
def checkL : List (List Int) → Int
  | [] => 0
  | x :: r => if faultL x = 0 then checkL r else faultL x
theorem faultL_cases (l : List Int) : faultL l = 0 ∨ faultL l = 1 ∨ faultL l = 18 := by unfold faultL; split <;> (try split) <;> simp
theorem faultL_long {l : List Int} (h : 16 < l.length) : faultL l = 18 := by simp [faultL, h]
theorem faultL_bad {l : List Int} (h : ¬ 16 < l.length) (hb : l.any badMass = true) : faultL l = 1 := by simp only [faultL, if_neg h, hb, if_true]
theorem faultL_ok {l : List Int} (h : ¬ 16 < l.length) (hb : l.any badMass = false) : faultL l = 0 := by simp only [faultL, if_neg h, hb]; rfl
theorem checkL_one (l : List Int) : checkL [l] = faultL l := by unfold checkL; split <;> simp_all [checkL]
def validL (l : List Int) (n : Int) : Bool := decide ((l.length : Int) = n) && decide (faultL l = 0)
def bothL (a b : List Int) : Int := if faultL a ≠ 0 then faultL a else if faultL b ≠ 0 then faultL b else if a.length ≠ b.length then 18 else 0
def sumsL (a b : List Int) : List Int := List.zipWith (· + ·) a b
def over (n : Int) : Bool := decide (1073741824 < n)
/-- The sum of two mixes, or the error. -/
def addL (a b : List Int) : List Int × Int := if bothL a b ≠ 0 then ([], bothL a b) else if (sumsL a b).any over then ([], 2) else (sumsL a b, 0)

theorem ok_of_fault {l : List Int} (h : faultL l = 0) : l.length ≤ 16 ∧ ∀ k, k < l.length → 0 ≤ ix l k ∧ ix l k ≤ 1073741824 := by
  unfold faultL at h
  split at h
  · exact absurd h (by decide)
  · rename_i hl
    refine ⟨by omega, fun k hk => ?_⟩
    split at h
    · exact absurd h (by decide)
    · rename_i hb
      have : badMass l[k] = false := by
        cases hc : badMass l[k]
        · rfl
        · exact absurd (List.any_eq_true.2 ⟨_, List.getElem_mem hk, hc⟩) hb
      rw [ix_eq hk]
      simp [badMass] at this
      omega

end Go.Proofs.Ytnpdkpbecmpdbaa
