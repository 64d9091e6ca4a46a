/-
  num: divide; the reference's divide.
-/
import Derived.Test.YtoneoeckilaglaaNb
set_option linter.unusedVariables false
set_option linter.unusedSimpArgs false
namespace Go.Proofs.Ytoneoeckilaglaa
open Go.RowKit

theorem half_step (A j : Nat) : A / 2 ^ j = 2 * (A / 2 ^ (j + 1)) + A / 2 ^ j % 2 := by
  rw [Nat.pow_succ, ← Nat.div_div_eq_div_mul]; omega
theorem div_step {P B C q r b : Nat} (hC : 0 < C) (h : q * C + r = P * B) : (2 * q + (2 * r + b * B) / C) * C + (2 * r + b * B) % C = (2 * P + b) * B := by
  have h1 := Nat.div_add_mod (2 * r + b * B) C
  have e1 : (2 * q + (2 * r + b * B) / C) * C = 2 * (q * C) + C * ((2 * r + b * B) / C) := by rw [Nat.add_mul, Nat.mul_assoc, Nat.mul_comm C]
  have e2 : (2 * P + b) * B = 2 * (P * B) + b * B := by rw [Nat.add_mul, Nat.mul_assoc]
  omega
theorem quo_of {q r C T : Nat} (h : q * C + r = T) (hr : r < C) : q = T / C ∧ r = T % C := by
  subst h
  have hC : 0 < C := by omega
  rw [Nat.mul_comm, Nat.mul_add_div hC, Nat.mul_add_mod, Nat.div_eq_of_lt hr, Nat.mod_eq_of_lt hr]; omega

/-- What the reference's divide returns. -/
def divV (A B C : Nat) : Value := if A * B / C ≤ 1125899906842624 then .tuple #[.int .i64 ((A * B / C : Nat) : Int), .int .i64 ((A * B % C : Nat) : Int), .bool true] else .tuple #[.int .i64 0, .int .i64 0, .bool false]
theorem divV_ok {A B C : Nat} (h : A * B / C ≤ 1125899906842624) : divV A B C = .tuple #[.int .i64 ((A * B / C : Nat) : Int), .int .i64 ((A * B % C : Nat) : Int), .bool true] := if_pos h
theorem divV_bad {A B C : Nat} (h : ¬ A * B / C ≤ 1125899906842624) : divV A B C = .tuple #[.int .i64 0, .int .i64 0, .bool false] := if_neg h

set_option maxRecDepth 100000 in
set_option maxHeartbeats 800000 in
theorem refDivide_any (A B C : Nat) (hA : A ≤ 1125899906842624) (hB : B ≤ 1125899906842624) (hC : 1 ≤ C) (hC2 : C ≤ 1125899906842624) (w : World) :
    Calls Try.prog 36 #[.int .i64 A, .int .i64 B, .int .i64 C] w fun e w' =>
      e = .returned (divV A B C) ∧ w = w' := by
  go_enter Try.func36, Try.ntmps36
  go_wp2
  go_loopw [9, 10, 11] (fun q r i wr => ∃ (k Q R : Nat), k ≤ 51 ∧ ((k = 0 ∧ i = .int .i64 (-1)) ∨ ∃ j : Nat, k = j + 1 ∧ i = .int .i64 j) ∧ q = .int .i64 Q ∧ r = .int .i64 R ∧ Q * C + R = A / 2 ^ k * B ∧ R < C ∧ Q ≤ 1125899906842624 ∧ wr = w) (fun _ _ i _ => (intOf i + 1).toNat)
  case atStart =>
    refine ⟨51, 0, 0, by omega, .inr ⟨50, rfl, rfl⟩, rfl, rfl, ?_, by omega, by omega, rfl⟩
    rw [Nat.div_eq_of_lt (by omega)]; simp
  case round =>
    obtain ⟨k, Q, R, hk, hi, rfl, rfl, hinv, hR, hQ, rfl⟩ := hrel
    rcases hi with ⟨rfl, rfl⟩ | ⟨j, rfl, rfl⟩
    · rw [Nat.pow_zero, Nat.div_one] at hinv
      obtain ⟨e1, e2⟩ := quo_of hinv hR
      have E := Lib.hid (show divV A B C = .tuple #[.int .i64 Q, .int .i64 R, .bool true] by rw [divV_ok (by omega), ← e1, ← e2])
      clear hinv e1 e2
      go_wp2
      exact bodyPost_ret (v := .tuple #[.int .i64 Q, .int .i64 R, .bool true]) (by simp [results, Try.results36, go_sem]) rfl ⟨by rw [E.out], rfl⟩
    · have Hinv := Lib.hid hinv
      have hh := half_step A j
      have hb2 : A / 2 ^ j % 2 < 2 := Nat.mod_lt _ (by omega)
      have hj : min j 64 = j := by omega
      have hsh : (A : Int) / 2 ^ j = ((A / 2 ^ j : Nat) : Int) := by simp
      generalize hP : A / 2 ^ (j + 1) = P at *
      generalize hP1 : A / 2 ^ j = P1 at *
      have q0 : (0 : Int) ≤ (j : Int) := by omega
      have e0 : IntKind.i64.wrap (2 * (Q : Int)) = ((2 * Q : Nat) : Int) := by rw [IntWalk.i64_in _ (by omega)]; omega
      have e1 : IntKind.i64.wrap (2 * (R : Int)) = ((2 * R : Nat) : Int) := by rw [IntWalk.i64_in _ (by omega)]; omega
      have Hh := Lib.hid hh
      clear hinv hh
      have HP1 := Lib.hid hP1
      rcases (by omega : P1 % 2 = 1 ∨ P1 % 2 = 0) with hbit | hbit
      · have hP1b : P1 % 2 = 1 := by omega
        have dP : ((P1 : Int) % 2 == 1) = true := by rw [beq_iff_eq]; omega
        have hst : (2 * Q + (2 * R + B) / C) * C + (2 * R + B) % C = P1 * B := by
          have := div_step (P := P) (B := B) (C := C) (q := Q) (r := R) (b := 1) hC Hinv.out
          rw [Nat.one_mul] at this
          rw [this, Hh.out, hP1b]
        have hTC : (2 * R + B) / C ≤ 2 * R + B := Nat.div_le_self _ _
        have hRn : (2 * R + B) % C < C := Nat.mod_lt _ hC
        have eR : (2 * (R : Int) + B) % (C : Int) = (((2 * R + B) % C : Nat) : Int) := by simp
        have eD : (2 * (R : Int) + B) / (C : Int) = (((2 * R + B) / C : Nat) : Int) := by simp
        have eW : IntKind.i64.wrap (2 * (R : Int) + B) = 2 * (R : Int) + B := IntWalk.i64_in _ (by omega)
        have hle : (2 * Q + (2 * R + B) / C) ≤ A * B / C := by
          rw [Nat.le_div_iff_mul_le hC]
          refine Nat.le_trans (Nat.le_of_add_right_le (Nat.le_of_eq hst)) ?_
          rw [← hP1]; exact Nat.mul_le_mul_right _ (Nat.div_le_self _ _)
        generalize (2 * R + B) % C = Rn at hst hRn eR
        generalize (2 * R + B) / C = Dn at hst hTC eD hle
        have eQ : IntKind.i64.wrap (2 * (Q : Int) + (Dn : Int)) = ((2 * Q + Dn : Nat) : Int) := by rw [IntWalk.i64_in _ (by omega)]; omega
        generalize hQn : 2 * Q + Dn = Qn at hst eQ hle
        have Hst := Lib.hid hst
        have Hle := Lib.hid hle
        have e9 : 2 * (Q : Int) + Dn = Qn := by omega
        have e8 : IntKind.i64.wrap (Qn : Int) = Qn := IntWalk.i64_in _ (by omega)
        clear hst hle hP1b hP hP1 hbit hb2 hQn
        by_cases hov : Qn ≤ 1125899906842624
        · have dov : decide (1125899906842624 < (Qn : Int)) = false := decide_eq_false (by omega)
          go_wp2
          refine ⟨⟨j, Qn, Rn, by omega, ?_, rfl, by rw [eR], ?_, hRn, hov, by trivial⟩, by first | (simp [intOf]; done) | (simp [intOf]; omega)⟩
          · cases j with
            | zero => exact .inl ⟨rfl, rfl⟩
            | succ j => exact .inr ⟨j, rfl, by congr 1; omega⟩
          · rw [Hst.out, HP1.out]
        · have dov : decide (1125899906842624 < (Qn : Int)) = true := decide_eq_true (by omega)
          have E := Lib.hid (divV_bad (A := A) (B := B) (C := C) (by have := Hle.out; omega))
          go_wp2
          exact bodyPost_ret (v := .tuple #[.int .i64 0, .int .i64 0, .bool false]) (by simp [results, Try.results36, go_sem]) rfl ⟨by rw [E.out], rfl⟩
      · have hP1b : P1 % 2 = 0 := by omega
        have dP : ((P1 : Int) % 2 == 1) = false := by rw [beq_eq_false_iff_ne]; omega
        have hst : (2 * Q + (2 * R) / C) * C + (2 * R) % C = P1 * B := by
          have := div_step (P := P) (B := B) (C := C) (q := Q) (r := R) (b := 0) hC Hinv.out
          rw [Nat.zero_mul, Nat.add_zero] at this
          rw [this, Hh.out, hP1b]
        have hTC : (2 * R) / C ≤ 2 * R := Nat.div_le_self _ _
        have hRn : (2 * R) % C < C := Nat.mod_lt _ hC
        have eR : (2 * (R : Int)) % (C : Int) = (((2 * R) % C : Nat) : Int) := by simp
        have eD : (2 * (R : Int)) / (C : Int) = (((2 * R) / C : Nat) : Int) := by simp
        have eW : IntKind.i64.wrap (2 * (R : Int)) = 2 * (R : Int) := IntWalk.i64_in _ (by omega)
        have hle : (2 * Q + (2 * R) / C) ≤ A * B / C := by
          rw [Nat.le_div_iff_mul_le hC]
          refine Nat.le_trans (Nat.le_of_add_right_le (Nat.le_of_eq hst)) ?_
          rw [← hP1]; exact Nat.mul_le_mul_right _ (Nat.div_le_self _ _)
        generalize (2 * R) % C = Rn at hst hRn eR
        generalize (2 * R) / C = Dn at hst hTC eD hle
        have eQ : IntKind.i64.wrap (2 * (Q : Int) + (Dn : Int)) = ((2 * Q + Dn : Nat) : Int) := by rw [IntWalk.i64_in _ (by omega)]; omega
        generalize hQn : 2 * Q + Dn = Qn at hst eQ hle
        have Hst := Lib.hid hst
        have Hle := Lib.hid hle
        have e9 : 2 * (Q : Int) + Dn = Qn := by omega
        have e8 : IntKind.i64.wrap (Qn : Int) = Qn := IntWalk.i64_in _ (by omega)
        clear hst hle hP1b hP hP1 hbit hb2 hQn
        by_cases hov : Qn ≤ 1125899906842624
        · have dov : decide (1125899906842624 < (Qn : Int)) = false := decide_eq_false (by omega)
          go_wp2
          refine ⟨⟨j, Qn, Rn, by omega, ?_, rfl, by rw [eR], ?_, hRn, hov, by trivial⟩, by first | (simp [intOf]; done) | (simp [intOf]; omega)⟩
          · cases j with
            | zero => exact .inl ⟨rfl, rfl⟩
            | succ j => exact .inr ⟨j, rfl, by congr 1; omega⟩
          · rw [Hst.out, HP1.out]
        · have dov : decide (1125899906842624 < (Qn : Int)) = true := decide_eq_true (by omega)
          have E := Lib.hid (divV_bad (A := A) (B := B) (C := C) (by have := Hle.out; omega))
          go_wp2
          exact bodyPost_ret (v := .tuple #[.int .i64 0, .int .i64 0, .bool false]) (by simp [results, Try.results36, go_sem]) rfl ⟨by rw [E.out], rfl⟩

end Go.Proofs.Ytoneoeckilaglaa
