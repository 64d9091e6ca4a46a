/-
  What the functions of num compute, in plain Lean.
-/
import Derived.Test.YtoneoeckilaglaaMem
set_option linter.unusedVariables false
set_option linter.unusedSimpArgs false
namespace Go.Proofs.Ytoneoeckilaglaa

/-- In range. -/
def inB (a : Int) : Bool := decide (-1125899906842624 ≤ a) && decide (a ≤ 1125899906842624)
theorem inB_true {a : Int} : inB a = true ↔ -1125899906842624 ≤ a ∧ a ≤ 1125899906842624 := by simp [inB]
theorem inB_false {a : Int} : inB a = false ↔ a < -1125899906842624 ∨ 1125899906842624 < a := by
  have := @inB_true a
  cases h : inB a <;> simp [h] at this ⊢ <;> omega
/-- A result, or the error. -/
def chkN (a : Int) : Int × Int := if inB a then (a, 0) else (0, 2)
theorem chkN_ok {a : Int} (h : inB a = true) : chkN a = (a, 0) := by simp [chkN, h]
theorem chkN_bad {a : Int} (h : inB a = false) : chkN a = (0, 2) := by simp [chkN, h]
def addN (a b : Int) : Int × Int := if inB a && inB b then chkN (a + b) else (0, 1)
def subN (a b : Int) : Int × Int := if inB a && inB b then chkN (a - b) else (0, 1)

/-- The absolute value. -/
def absN (a : Int) : Int := a.natAbs
theorem absN_neg {a : Int} (h : a < 0) : absN a = -a := by simp only [absN]; omega
theorem absN_pos {a : Int} (h : 0 ≤ a) : absN a = a := by simp only [absN]; omega

end Go.Proofs.Ytoneoeckilaglaa
