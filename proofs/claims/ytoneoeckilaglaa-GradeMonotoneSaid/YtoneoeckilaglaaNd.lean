/-
  num: divide.
-/
import Derived.Test.YtoneoeckilaglaaNc
import Derived.Lib.RabinKarpLaws
set_option linter.unusedVariables false
set_option linter.unusedSimpArgs false
namespace Go.Proofs.Ytoneoeckilaglaa
open Go.RowKit

theorem and_one' (i : Nat) (hi : i < 9223372036854775808) : bits BinOp.and IntKind.i64 (i : Int) 1 = ((i % 2 : Nat) : Int) := and_one i hi

set_option maxRecDepth 100000 in
set_option maxHeartbeats 800000 in
theorem numDivide_any (A B C : Nat) (hA : A < C) (hB : B ≤ 1125899906842624) (hC2 : C ≤ 1125899906842624) (w : World) :
    Calls Try.prog 32 #[.int .i64 A, .int .i64 B, .int .i64 C] w fun e w' =>
      e = .returned (.tuple #[.int .i64 ((A * B / C : Nat) : Int), .int .i64 ((A * B % C : Nat) : Int)]) ∧ w = w' := by
  have hC : 0 < C := by omega
  go_enter Try.func32, Try.ntmps32
  go_wp2
  go_loopw [8, 9, 10] (fun q r i wr => ∃ (k Q R : Nat), k ≤ 51 ∧ ((k = 0 ∧ i = .int .i64 (-1)) ∨ ∃ j : Nat, k = j + 1 ∧ i = .int .i64 j) ∧ q = .int .i64 Q ∧ r = .int .i64 R ∧ Q * C + R = B / 2 ^ k * A ∧ R < C ∧ wr = w) (fun _ _ i _ => (intOf i + 1).toNat)
  case atStart =>
    refine ⟨51, 0, 0, by omega, .inr ⟨50, rfl, rfl⟩, rfl, rfl, ?_, by omega, rfl⟩
    rw [Nat.div_eq_of_lt (by omega)]; simp
  case round =>
    obtain ⟨k, Q, R, hk, hi, rfl, rfl, hinv, hR, rfl⟩ := hrel
    rcases hi with ⟨rfl, rfl⟩ | ⟨j, rfl, rfl⟩
    · rw [Nat.pow_zero, Nat.div_one, Nat.mul_comm B] at hinv
      obtain ⟨e1, e2⟩ := quo_of hinv hR
      have E1 := Lib.hid e1
      have E2 := Lib.hid e2
      clear hinv e1 e2
      go_wp2
      go_ret2
      exact ⟨by rw [E1.out, E2.out]; rfl, rfl⟩
    · have Hinv := Lib.hid hinv
      have hh := half_step B j
      have hQ : Q ≤ B / 2 ^ (j + 1) := by
        have h1 : Q * C ≤ B / 2 ^ (j + 1) * C := Nat.le_trans (Nat.le_of_add_right_le (Nat.le_of_eq hinv)) (Nat.mul_le_mul_left _ (by omega))
        exact Nat.le_of_mul_le_mul_right h1 hC
      have hP2 : B / 2 ^ j ≤ B := Nat.div_le_self _ _
      have hb2 : B / 2 ^ j % 2 < 2 := Nat.mod_lt _ (by omega)
      have hj : min j 64 = j := by omega
      have hsh : (B : Int) / 2 ^ j = ((B / 2 ^ j : Nat) : Int) := by simp
      generalize hP : B / 2 ^ (j + 1) = P at *
      generalize hP1 : B / 2 ^ j = P1 at *
      have q0 : (0 : Int) ≤ (j : Int) := by omega
      have e0 : IntKind.i64.wrap (2 * (Q : Int)) = ((2 * Q : Nat) : Int) := by rw [IntWalk.i64_in _ (by omega)]; omega
      have e1 : IntKind.i64.wrap (2 * (R : Int)) = ((2 * R : Nat) : Int) := by rw [IntWalk.i64_in _ (by omega)]; omega
      have hand := and_one' P1 (by omega)
      have Hh := Lib.hid hh
      clear hinv hh
      have HP1 := Lib.hid hP1
      clear hP hP1
      rcases (by omega : P1 % 2 = 1 ∨ P1 % 2 = 0) with hbit | hbit
      · rw [hbit] at hand
        have e2 : IntKind.i64.wrap (2 * (R : Int) + A) = ((2 * R + A : Nat) : Int) := by rw [IntWalk.i64_in _ (by omega)]; omega
        have Hbit := Lib.hid hbit
        clear hbit
        go_wp2
        have hst : 2 * Q * C + (2 * R + A) = P1 * A := by
          have e1 := Hinv.out
          have e2 := Hh.out
          rw [Hbit.out] at e2
          rw [e2, Nat.add_mul, Nat.mul_assoc, Nat.mul_assoc, ← e1]; omega
        have hle : P1 * A ≤ P1 * C := Nat.mul_le_mul_left _ (by omega)
        have Hst := Lib.hid hst
        have Hle := Lib.hid hle
        clear hst hle
        go_loopw [8, 9] (fun q r wr2 => ∃ X Y : Nat, q = .int .i64 X ∧ r = .int .i64 Y ∧ X * C + Y = P1 * A ∧ Y ≤ 3377699720527872 ∧ wr2 = wr) (fun _ r _ => (intOf r).toNat)
        case atStart => exact ⟨2 * Q, 2 * R + A, by go_num, by go_num, Hst.out, by omega, rfl⟩
        case round =>
          obtain ⟨X, Y, rfl, rfl, hxy, hY, rfl⟩ := hrel
          have hX : X ≤ P1 := Nat.le_of_mul_le_mul_right (Nat.le_trans (Nat.le_of_add_right_le (Nat.le_of_eq hxy)) Hle.out) hC
          have Hxy := Lib.hid hxy
          clear hxy
          by_cases hge : C ≤ Y
          · have f1 : IntKind.i64.wrap ((X : Int) + 1) = ((X + 1 : Nat) : Int) := by rw [IntWalk.i64_in _ (by omega)]; omega
            have f2 : IntKind.i64.wrap ((Y : Int) - C) = ((Y - C : Nat) : Int) := by rw [IntWalk.i64_in _ (by omega)]; omega
            have f3 : decide ((C : Int) ≤ Y) = true := decide_eq_true (by omega)
            go_wp2
            refine ⟨⟨X + 1, Y - C, by go_num, by first | rfl | (congr 1; omega), ?_, by omega, by trivial⟩, by simp [intOf]; omega⟩
            have := Hxy.out
            rw [Nat.add_mul, Nat.one_mul]; omega
          · have f3 : decide ((C : Int) ≤ Y) = false := decide_eq_false (by omega)
            have f4 : IntKind.i64.wrap ((j : Int) - 1) = (j : Int) - 1 := IntWalk.i64_in _ (by omega)
            go_wp2
            refine ⟨⟨j, X, Y, by omega, ?_, rfl, rfl, ?_, by omega, by trivial⟩, by first | (simp [intOf]; done) | (simp [intOf]; omega)⟩
            · cases j with
              | zero => exact .inl ⟨rfl, rfl⟩
              | succ j => exact .inr ⟨j, rfl, by congr 1; omega⟩
            · rw [Hxy.out, HP1.out]
      · rw [hbit] at hand
        have Hbit := Lib.hid hbit
        clear hbit
        go_wp2
        have hst : 2 * Q * C + (2 * R) = P1 * A := by
          have e1 := Hinv.out
          have e2 := Hh.out
          rw [Hbit.out] at e2
          rw [e2, Nat.add_mul, Nat.mul_assoc, Nat.mul_assoc, ← e1]; omega
        have hle : P1 * A ≤ P1 * C := Nat.mul_le_mul_left _ (by omega)
        have Hst := Lib.hid hst
        have Hle := Lib.hid hle
        clear hst hle
        go_loopw [8, 9] (fun q r wr2 => ∃ X Y : Nat, q = .int .i64 X ∧ r = .int .i64 Y ∧ X * C + Y = P1 * A ∧ Y ≤ 3377699720527872 ∧ wr2 = wr) (fun _ r _ => (intOf r).toNat)
        case atStart => exact ⟨2 * Q, 2 * R, by go_num, by go_num, Hst.out, by omega, rfl⟩
        case round =>
          obtain ⟨X, Y, rfl, rfl, hxy, hY, rfl⟩ := hrel
          have hX : X ≤ P1 := Nat.le_of_mul_le_mul_right (Nat.le_trans (Nat.le_of_add_right_le (Nat.le_of_eq hxy)) Hle.out) hC
          have Hxy := Lib.hid hxy
          clear hxy
          by_cases hge : C ≤ Y
          · have f1 : IntKind.i64.wrap ((X : Int) + 1) = ((X + 1 : Nat) : Int) := by rw [IntWalk.i64_in _ (by omega)]; omega
            have f2 : IntKind.i64.wrap ((Y : Int) - C) = ((Y - C : Nat) : Int) := by rw [IntWalk.i64_in _ (by omega)]; omega
            have f3 : decide ((C : Int) ≤ Y) = true := decide_eq_true (by omega)
            go_wp2
            refine ⟨⟨X + 1, Y - C, by go_num, by first | rfl | (congr 1; omega), ?_, by omega, by trivial⟩, by simp [intOf]; omega⟩
            have := Hxy.out
            rw [Nat.add_mul, Nat.one_mul]; omega
          · have f3 : decide ((C : Int) ≤ Y) = false := decide_eq_false (by omega)
            have f4 : IntKind.i64.wrap ((j : Int) - 1) = (j : Int) - 1 := IntWalk.i64_in _ (by omega)
            go_wp2
            refine ⟨⟨j, X, Y, by omega, ?_, rfl, rfl, ?_, by omega, by trivial⟩, by first | (simp [intOf]; done) | (simp [intOf]; omega)⟩
            · cases j with
              | zero => exact .inl ⟨rfl, rfl⟩
              | succ j => exact .inr ⟨j, rfl, by congr 1; omega⟩
            · rw [Hxy.out, HP1.out]

end Go.Proofs.Ytoneoeckilaglaa
