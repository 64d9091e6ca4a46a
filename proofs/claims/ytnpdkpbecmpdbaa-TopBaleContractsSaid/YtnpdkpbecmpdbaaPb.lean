/-
  bits.Mul64 and bits.Div64 where the product has no upper half.
-/
import Derived.Test.YtnpdkpbecmpdbaaV1
import Derived.Deep.QuietTactic
import Derived.BigQuiet
import Derived.Laws.Bits64b
set_option linter.unusedVariables false
set_option linter.unusedSimpArgs false
namespace Go.Proofs.Ytnpdkpbecmpdbaa
open Go.RowKit

theorem low_mask (a : Nat) (ha : a < 4294967296) : bits .and .u64 (a : Int) 4294967295 = (a : Int) := by
  have h := bits_and_u64_nat a 4294967295 (by omega) (by omega)
  have e : a &&& 4294967295 = a % 4294967296 := Nat.and_two_pow_sub_one_eq_mod a 32
  rw [e, Nat.mod_eq_of_lt ha] at h
  exact h

set_option maxHeartbeats 1600000 in
theorem mul_any (x y q : Nat) (hx : x ≤ 1073741824) (hy : y ≤ 1073741824) (hq : x * y = q) (w : World) :
    Calls Try.prog 50 #[.int .u64 (x : Int), .int .u64 (y : Int)] w fun e w' => e = .returned (.tuple #[.int .u64 0, .int .u64 (q : Int)]) ∧ w = w' := by
  have hq2 : q ≤ 1073741824 * 1073741824 := by rw [← hq]; exact Nat.mul_le_mul hx hy
  have p : (x : Int) * (y : Int) = (q : Int) := by rw [← hq]; exact (Int.natCast_mul x y).symm
  have m1 := low_mask x (by omega)
  have m2 := low_mask y (by omega)
  have d1 : (x : Int) / 4294967296 = 0 := by omega
  have d2 : (y : Int) / 4294967296 = 0 := by omega
  obtain ⟨t, ht⟩ : ∃ t : Nat, q / 4294967296 = t := ⟨_, rfl⟩
  have d3 : (q : Int) / 4294967296 = (t : Int) := by omega
  have t1 : t < 4294967296 := by omega
  have d4 : (t : Int) / 4294967296 = 0 := by omega
  have m3 := low_mask t t1
  have w1 : IntKind.u64.wrap (q : Int) = (q : Int) := by rw [IntKind.wrap_u64]; omega
  have w2 : IntKind.u64.wrap (t : Int) = (t : Int) := by rw [IntKind.wrap_u64]; omega
  clear hq ht hq2
  go_enter Try.func50, Try.ntmps50
  go_wp2
  go_ret2
  exact ⟨rfl, rfl⟩

set_option maxHeartbeats 1600000 in
theorem div_any (q s d m : Nat) (hs : 0 < s) (hs2 : s ≤ 1073741824000) (hq : q ≤ 1152921504606846976) (hd : q / s = d) (hm : q % s = m) (w : World) :
    Calls Try.prog 51 #[.int .u64 0, .int .u64 (q : Int), .int .u64 (s : Int)] w fun e w' => e = .returned (.tuple #[.int .u64 (d : Int), .int .u64 (m : Int)]) ∧ Drawn w w' := by
  have s0 : (0 : Int) < (s : Int) := by omega
  have s1 : ¬ ((s : Int) ≤ 0) := by omega
  have s2 : ((s : Int) == 0) = false := by simp; omega
  have hd2 : (q : Int) / (s : Int) = (d : Int) := by rw [← hd]; rfl
  have hm2 : (q : Int) % (s : Int) = (m : Int) := by rw [← hm]; rfl
  have r0 : (0 : Int) ≤ (q : Int) / (s : Int) := Int.ediv_nonneg (by omega) (by omega)
  have r1 : (q : Int) / (s : Int) ≤ (q : Int) := Int.ediv_le_self _ (by omega)
  have w3 : IntKind.u64.wrap (d : Int) = (d : Int) := by rw [IntKind.wrap_u64]; omega
  clear hd hm
  go_enter Try.func51, Try.ntmps51
  go_wp2
  go_quiet (fail)
  go_wp2
  go_ret2
  exact ⟨by rw [← hm2]; rfl, Drawn.mk _ _⟩

end Go.Proofs.Ytnpdkpbecmpdbaa
