/-
  num: abs, Gcd; the reference's abs, Gcd.
-/
import Derived.Test.YtoneoeckilaglaaNa
set_option linter.unusedVariables false
set_option linter.unusedSimpArgs false
namespace Go.Proofs.Ytoneoeckilaglaa
open Go.RowKit

theorem numAbs_any (a : Int) (h : -9223372036854775808 < a ∧ a ≤ 9223372036854775807) (w : World) : Calls Try.prog 31 #[.int .i64 a] w fun e w' => e = .returned (.int .i64 (absN a)) ∧ w = w' := by
  have e1 : IntKind.i64.wrap (-a) = -a := IntWalk.i64_in _ (by omega)
  go_enter Try.func31, Try.ntmps31
  go_wp2
  all_goals
    go_ret
    exact ⟨ret_int (by simp only [absN]; omega), rfl⟩

theorem refAbs_any (a : Int) (h : -9223372036854775808 < a) (w : World) : Calls Try.prog 37 #[.int .i64 a] w fun e w' => e = .returned (.int .i64 (absN a)) ∧ w = w' := by
  by_cases h0 : a < 0
  · have e1 : IntKind.i64.wrap (-a) = -a := IntWalk.i64_in _ (by omega)
    have H := Lib.hid (absN_neg h0)
    clear h
    go_enter Try.func37, Try.ntmps37
    go_wp2
    go_ret
    exact ⟨ret_int H.out.symm, rfl⟩
  · have H := Lib.hid (absN_pos (a := a) (by omega))
    clear h
    go_enter Try.func37, Try.ntmps37
    go_wp2
    go_ret
    exact ⟨ret_int H.out.symm, rfl⟩
def gcdN (a b : Int) : Int × Int := if inB a && inB b then (((Nat.gcd a.natAbs b.natAbs : Nat) : Int), 0) else (0, 1)
theorem gcdN_bad {a b : Int} (h : (inB a && inB b) = false) : gcdN a b = (0, 1) := by simp [gcdN, h]
theorem gcdN_ok {a b : Int} (h : (inB a && inB b) = true) : gcdN a b = (((Nat.gcd a.natAbs b.natAbs : Nat) : Int), 0) := by simp [gcdN, h]

end Go.Proofs.Ytoneoeckilaglaa
