/-
  num: what Scale computes; Scale.
-/
import Derived.Test.YtoneoeckilaglaaNe
set_option linter.unusedVariables false
set_option linter.unusedSimpArgs false
namespace Go.Proofs.Ytoneoeckilaglaa
open Go.RowKit

def negB (a b c : Int) : Bool := (decide (a < 0) != decide (b < 0)) != decide (c < 0)
/-- The rounded absolute value of a * b / c. -/
def quoN (a b c mode : Int) : Nat :=
  a.natAbs * b.natAbs / c.natAbs + (if upB mode (negB a b c) (a.natAbs * b.natAbs / c.natAbs) (a.natAbs * b.natAbs % c.natAbs) c.natAbs then 1 else 0)
def signN (neg : Bool) (q : Nat) : Int := if neg then -(q : Int) else q
def goodN (a b c mode : Int) : Bool := inB a && (inB b && inB c) && decide (c ≠ 0) && decide (0 ≤ mode) && decide (mode ≤ 3)
def scaleN (a b c mode : Int) : Int × Int := if goodN a b c mode then chkN (signN (negB a b c) (quoN a b c mode)) else (0, 1)
theorem scaleN_bad {a b c mode : Int} (h : goodN a b c mode = false) : scaleN a b c mode = (0, 1) := by simp [scaleN, h]
theorem scaleN_ok {a b c mode : Int} (h : goodN a b c mode = true) : scaleN a b c mode = chkN (signN (negB a b c) (quoN a b c mode)) := by simp [scaleN, h]
theorem chk_over {neg : Bool} {q : Nat} (h : 1125899906842624 < q) : chkN (signN neg q) = (0, 2) := by
  refine chkN_bad (inB_false.2 ?_)
  cases neg <;> simp only [signN] <;> simp <;> omega

theorem good_cases {a b c mode : Int} (h : goodN a b c mode = false) : (inB a && (inB b && inB c)) = false ∨ ((inB a && (inB b && inB c)) = true ∧ (c = 0 ∨ c ≠ 0 ∧ (mode < 0 ∨ ¬ mode < 0 ∧ 3 < mode))) := by
  cases h1 : (inB a && (inB b && inB c))
  · exact .inl rfl
  · refine .inr ⟨rfl, ?_⟩
    unfold goodN at h
    rw [h1] at h
    by_cases hc : c = 0
    · exact .inl hc
    · refine .inr ⟨hc, ?_⟩
      by_cases hm : mode < 0
      · exact .inl hm
      · refine .inr ⟨hm, ?_⟩
        simp [hc] at h
        omega

set_option maxHeartbeats 400000 in
theorem numScale_bad (a b c mode : Int) (h : goodN a b c mode = false) (w : World) : Calls Try.prog 25 #[.int .i64 a, .int .i64 b, .int .i64 c, .int .i64 mode] w fun e w' => e = .returned (.tuple #[.int .i64 0, .int .i64 1]) ∧ Mod NoBlock w w' := by
  rcases good_cases h with h1 | ⟨h1, rfl | ⟨h2, h3 | ⟨h3, h4⟩⟩⟩
  all_goals
    have h' := Lib.hid h1
    try have hc0 : (c == 0) = false := by rw [beq_eq_false_iff_ne]; exact h2
    clear h h1
    try clear h2
    go_enter Try.func25, Try.ntmps25
    go_wp2_with (go_at_call 30; refine (numIn3 a b _ _ _).mono ?_; rintro e w9 ⟨rfl, hmc⟩; rw [h'.out])
    go_ret2
    exact ⟨rfl, hmc⟩

end Go.Proofs.Ytoneoeckilaglaa
