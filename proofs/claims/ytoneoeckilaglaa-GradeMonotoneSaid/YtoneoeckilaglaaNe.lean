/-
  num: up; what Scale computes.
-/
import Derived.Test.YtoneoeckilaglaaNd
set_option linter.unusedVariables false
set_option linter.unusedSimpArgs false
namespace Go.Proofs.Ytoneoeckilaglaa
open Go.RowKit

/-- Whether an absolute value is rounded up. -/
def upB (mode : Int) (neg : Bool) (q r c : Nat) : Bool :=
  if mode = 0 then neg && decide (0 < r) else if mode = 1 then !neg && decide (0 < r) else if mode = 2 then decide (c ≤ 2 * r) else decide (c < 2 * r) || (decide (2 * r = c) && decide (q % 2 = 1))

theorem upB0 (neg : Bool) (q r c : Nat) : upB 0 neg q r c = (neg && decide (0 < r)) := rfl
theorem upB1 (neg : Bool) (q r c : Nat) : upB 1 neg q r c = (!neg && decide (0 < r)) := rfl
theorem upB2 (neg : Bool) (q r c : Nat) : upB 2 neg q r c = decide (c ≤ 2 * r) := rfl
theorem upB3 (neg : Bool) (q r c : Nat) : upB 3 neg q r c = (decide (c < 2 * r) || (decide (2 * r = c) && decide (q % 2 = 1))) := rfl

set_option maxHeartbeats 800000 in
theorem numUp_any (mode : Int) (neg : Bool) (q r c : Nat) (hm : 0 ≤ mode ∧ mode ≤ 3) (hr : r < c) (hc : c ≤ 1125899906842624) (hq : q ≤ 2251799813685248) (w : World) :
    Calls Try.prog 33 #[.int .i64 mode, .bool neg, .int .i64 q, .int .i64 r, .int .i64 c] w fun e w' => e = .returned (.bool (upB mode neg q r c)) ∧ w = w' := by
  have f2 : IntKind.i64.wrap ((c : Int) - r) = (c : Int) - r := IntWalk.i64_in _ (by omega)
  rcases (by omega : mode = 0 ∨ mode = 1 ∨ mode = 2 ∨ mode = 3) with rfl | rfl | rfl | rfl
  · have E := Lib.hid (upB0 neg q r c)
    cases neg
    all_goals
      by_cases h0 : 0 < r
      all_goals
        clear hr hc hq hm
        go_enter Try.func33, Try.ntmps33
        go_wp2
        go_ret
        exact ⟨ret_bool (by rw [E.out]; simp [*]), rfl⟩
  · have E := Lib.hid (upB1 neg q r c)
    cases neg
    all_goals
      by_cases h0 : 0 < r
      all_goals
        clear hr hc hq hm
        go_enter Try.func33, Try.ntmps33
        go_wp2
        go_ret
        exact ⟨ret_bool (by rw [E.out]; simp [*]), rfl⟩
  · have E := Lib.hid (upB2 neg q r c)
    by_cases h0 : c ≤ 2 * r
    · have f3 : decide ((c : Int) - r ≤ r) = true := decide_eq_true (by omega)
      have E2 := Lib.hid (decide_eq_true h0)
      clear hr hc hq hm h0
      go_enter Try.func33, Try.ntmps33
      go_wp2
      go_ret
      exact ⟨ret_bool (by rw [E.out, E2.out]), rfl⟩
    · have f3 : decide ((c : Int) - r ≤ r) = false := decide_eq_false (by omega)
      have E2 := Lib.hid (decide_eq_false h0)
      clear hr hc hq hm h0
      go_enter Try.func33, Try.ntmps33
      go_wp2
      go_ret
      exact ⟨ret_bool (by rw [E.out, E2.out]), rfl⟩
  · have E := Lib.hid (upB3 neg q r c)
    have eq : (q : Int).tmod 2 = ((q % 2 : Nat) : Int) := by rw [Int.tmod_eq_emod_of_nonneg (by omega)]; simp
    by_cases h0 : c < 2 * r
    · have f3 : decide ((c : Int) - r < r) = true := decide_eq_true (by omega)
      have E2 := Lib.hid (decide_eq_true h0)
      clear hr hc hq hm h0 eq
      go_enter Try.func33, Try.ntmps33
      go_wp2
      go_ret
      exact ⟨ret_bool (by rw [E.out, E2.out]; rfl), rfl⟩
    · have f3 : decide ((c : Int) - r < r) = false := decide_eq_false (by omega)
      have E2 := Lib.hid (decide_eq_false h0)
      by_cases h1 : 2 * r = c
      · have f4 : ((r : Int) == (c : Int) - r) = true := by rw [beq_iff_eq]; omega
        have E3 := Lib.hid (decide_eq_true h1)
        rcases (by omega : q % 2 = 1 ∨ q % 2 = 0) with h2 | h2
        · rw [h2] at eq
          have e3 : (q : Int) % 2 = 1 := by omega
          have E4 := Lib.hid (decide_eq_true h2)
          clear hr hc hq hm h0 h1 h2
          go_enter Try.func33, Try.ntmps33
          go_wp2
          go_ret
          exact ⟨ret_bool (by rw [E.out, E2.out, E3.out, E4.out]; rfl), rfl⟩
        · rw [h2] at eq
          have e3 : (q : Int) % 2 = 0 := by omega
          have E4 := Lib.hid (decide_eq_false (show ¬ q % 2 = 1 by omega))
          clear hr hc hq hm h0 h1 h2
          go_enter Try.func33, Try.ntmps33
          go_wp2
          go_ret
          exact ⟨ret_bool (by rw [E.out, E2.out, E3.out, E4.out]; rfl), rfl⟩
      · have f4 : ((r : Int) == (c : Int) - r) = false := by rw [beq_eq_false_iff_ne]; omega
        have E3 := Lib.hid (decide_eq_false h1)
        clear hr hc hq hm h0 h1 eq
        go_enter Try.func33, Try.ntmps33
        go_wp2
        go_ret
        exact ⟨ret_bool (by rw [E.out, E2.out, E3.out]; rfl), rfl⟩

end Go.Proofs.Ytoneoeckilaglaa
