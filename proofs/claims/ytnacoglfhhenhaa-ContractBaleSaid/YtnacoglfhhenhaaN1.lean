/-
  Several texts in one.
-/
import Derived.Test.YtnacoglfhhenhaaMem
import Derived.Test.YtnacoglfhhenhaaRows
import Derived.Lib.RabinKarpLaws
import Derived.Deep.DeepCutAuto
import Derived.Deep.CutBlock
set_option linter.unusedVariables false
set_option linter.unusedSimpArgs false
/-
  What the functions of num compute, in plain Lean.
-/
namespace Go.Proofs.Ytnacoglfhhenhaa

/-- In range. -/
def inB (a : Int) : Bool := decide (-1125899906842624 ≤ a) && decide (a ≤ 1125899906842624)
theorem inB_true {a : Int} : inB a = true ↔ -1125899906842624 ≤ a ∧ a ≤ 1125899906842624 := by simp [inB]
theorem inB_false {a : Int} : inB a = false ↔ a < -1125899906842624 ∨ 1125899906842624 < a := by
  have := @inB_true a
  cases h : inB a <;> simp [h] at this ⊢ <;> omega
/-- A result, or the error. -/
def chkN (a : Int) : Int × Int := if inB a then (a, 0) else (0, 2)
theorem chkN_ok {a : Int} (h : inB a = true) : chkN a = (a, 0) := by simp [chkN, h]
theorem chkN_bad {a : Int} (h : inB a = false) : chkN a = (0, 2) := by simp [chkN, h]
def addN (a b : Int) : Int × Int := if inB a && inB b then chkN (a + b) else (0, 1)
def subN (a b : Int) : Int × Int := if inB a && inB b then chkN (a - b) else (0, 1)

/-- The absolute value. -/
def absN (a : Int) : Int := a.natAbs
theorem absN_neg {a : Int} (h : a < 0) : absN a = -a := by simp only [absN]; omega
theorem absN_pos {a : Int} (h : 0 ≤ a) : absN a = a := by simp only [absN]; omega

end Go.Proofs.Ytnacoglfhhenhaa

/-
  num: in, checked, abs, Add, Sub; the reference's In, bounded, abs, Add, Sub.
-/
namespace Go.Proofs.Ytnacoglfhhenhaa
open Go.RowKit

set_option maxHeartbeats 400000 in
/-- num.in of any numbers. -/
theorem numIn_any (a : Option Addr) (c : Nat) (xs : List Int) (D : Nat → Prop) (w : World) (hx : Ints D w a xs) :
    Calls Try.prog 55 #[.slice a xs.length c] w fun e w' => e = .returned (.bool (xs.all inB)) ∧ w = w' := by
  obtain ⟨hl, b, off, ha, hc⟩ := hx.open
  clear hx
  have Ha := Lib.hid ha
  have Hc := Lib.hid hc
  clear ha hc
  go_enter Try.func55, Try.ntmps55
  go_wp2
  go_loopw [7] (fun i wr => ∃ k : Nat, k ≤ xs.length ∧ i = .int .i64 k ∧ wr = w ∧ (xs.take k).all inB = true) (fun i _ => xs.length - (intOf i).toNat)
  case atStart => exact ⟨0, by omega, rfl, rfl, by simp⟩
  case round =>
    obtain ⟨k, hk, rfl, rfl, ht⟩ := hrel
    have Ht := Lib.hid ht
    clear ht
    by_cases hkn : k < xs.length
    · obtain rfl := Ha.out (by intro e; subst e; simp at hkn)
      have h1 := (Hc.out k hkn)
      have q1 : (0 : Int) ≤ (k : Int) := by omega
      have q2 : (k : Int) < (xs.length : Int) := by omega
      generalize hv : ix xs k = v at h1
      have Hv := Lib.hid hv
      clear hv
      by_cases hin : inB v = true
      · obtain ⟨i1, i2⟩ := inB_true.1 hin
        have d1 : decide (v < -1125899906842624) = false := decide_eq_false (by omega)
        have d2 : decide (1125899906842624 < v) = false := decide_eq_false (by omega)
        have Hin := Lib.hid hin
        clear hin i1 i2
        go_wp2
        refine ⟨⟨k + 1, by omega, by go_num, by trivial, ?_⟩, by simp [intOf]; omega⟩
        rw [take_ix hkn, List.all_append, Ht.out, Hv.out]
        simp [Hin.out]
      · have hin' : inB v = false := by simpa using hin
        have hall : xs.all inB = false := by
          rw [List.all_eq_false]
          exact ⟨xs[k], List.getElem_mem hkn, by rw [← ix_eq hkn, Hv.out]; simpa using hin'⟩
        have Hall := Lib.hid hall
        clear hall hin
        by_cases hlo : v < -1125899906842624
        · clear hin'
          go_wp2
          go_ret
          exact ⟨ret_bool Hall.out.symm, rfl⟩
        · have hhi : 1125899906842624 < v := by
            rcases inB_false.1 hin' with h | h
            · omega
            · exact h
          clear hin'
          go_wp2
          go_ret
          exact ⟨ret_bool Hall.out.symm, rfl⟩
    · go_wp2
      go_ret
      refine ⟨ret_bool ?_, rfl⟩
      have := Ht.out
      rw [List.take_of_length_le (by omega)] at this
      exact this.symm

theorem numIn1 (a : Int) (t : TypeId) (w : World) : Calls Try.prog 55 #[.slice (some ⟨w.heap.size, 0, Option.none⟩) 1 1] (w.alloc (.cells #[.int .i64 a] t)) fun e w' => e = .returned (.bool (inB a)) ∧ Mod NoBlock w w' :=
  (numIn_any _ 1 [a] (fun _ => True) _ (Ints.one _ _ _ _ trivial)).mono fun e w' ⟨h1, h2⟩ => ⟨by rw [h1]; simp, by rw [← h2]; exact (Mod.refl _ _).alloc _⟩
theorem numIn2 (a b : Int) (t : TypeId) (w : World) : Calls Try.prog 55 #[.slice (some ⟨w.heap.size, 0, Option.none⟩) 2 2] (w.alloc (.cells #[.int .i64 a, .int .i64 b] t)) fun e w' => e = .returned (.bool (inB a && inB b)) ∧ Mod NoBlock w w' :=
  (numIn_any _ 2 [a, b] (fun _ => True) _ (Ints.pair _ _ _ _ _ trivial)).mono fun e w' ⟨h1, h2⟩ => ⟨by rw [h1]; simp, by rw [← h2]; exact (Mod.refl _ _).alloc _⟩
theorem numIn3 (a b c : Int) (t : TypeId) (w : World) : Calls Try.prog 55 #[.slice (some ⟨w.heap.size, 0, Option.none⟩) 3 3] (w.alloc (.cells #[.int .i64 a, .int .i64 b, .int .i64 c] t)) fun e w' => e = .returned (.bool (inB a && (inB b && inB c))) ∧ Mod NoBlock w w' :=
  (numIn_any _ 3 [a, b, c] (fun _ => True) _ (Ints.three _ _ _ _ _ _ trivial)).mono fun e w' ⟨h1, h2⟩ => ⟨by rw [h1]; simp, by rw [← h2]; exact (Mod.refl _ _).alloc _⟩

theorem checked_any (a : Int) (w : World) : Calls Try.prog 59 #[.int .i64 a] w fun e w' => e = .returned (.tuple #[.int .i64 (chkN a).1, .int .i64 (chkN a).2]) ∧ Mod NoBlock w w' := by
  cases h : inB a
  all_goals
    have h' := Lib.hid h
    first | rw [chkN_bad h] | rw [chkN_ok h]
    clear h
    go_enter Try.func59, Try.ntmps59
    go_wp2_with (go_at_call 55; refine (numIn1 a _ _).mono ?_; rintro e w9 ⟨rfl, hmc⟩; rw [h'.out])
    go_ret2
    exact ⟨rfl, hmc⟩

theorem addN_bad {a b : Int} (h : (inB a && inB b) = false) : addN a b = (0, 1) := by simp [addN, h]
theorem addN_ok {a b : Int} (h : (inB a && inB b) = true) : addN a b = chkN (a + b) := by simp [addN, h]
theorem subN_bad {a b : Int} (h : (inB a && inB b) = false) : subN a b = (0, 1) := by simp [subN, h]
theorem subN_ok {a b : Int} (h : (inB a && inB b) = true) : subN a b = chkN (a - b) := by simp [subN, h]
theorem in_both {a b : Int} (h : (inB a && inB b) = true) : -1125899906842624 ≤ a ∧ a ≤ 1125899906842624 ∧ -1125899906842624 ≤ b ∧ b ≤ 1125899906842624 := by
  rw [Bool.and_eq_true] at h
  have h1 := inB_true.1 h.1
  have h2 := inB_true.1 h.2
  omega

end Go.Proofs.Ytnacoglfhhenhaa

/-
  num: abs, Gcd; the reference's abs, Gcd.
-/
namespace Go.Proofs.Ytnacoglfhhenhaa
open Go.RowKit

theorem numAbs_any (a : Int) (h : -9223372036854775808 < a ∧ a ≤ 9223372036854775807) (w : World) : Calls Try.prog 56 #[.int .i64 a] w fun e w' => e = .returned (.int .i64 (absN a)) ∧ w = w' := by
  have e1 : IntKind.i64.wrap (-a) = -a := IntWalk.i64_in _ (by omega)
  go_enter Try.func56, Try.ntmps56
  go_wp2
  all_goals
    go_ret
    exact ⟨ret_int (by simp only [absN]; omega), rfl⟩

def gcdN (a b : Int) : Int × Int := if inB a && inB b then (((Nat.gcd a.natAbs b.natAbs : Nat) : Int), 0) else (0, 1)
theorem gcdN_bad {a b : Int} (h : (inB a && inB b) = false) : gcdN a b = (0, 1) := by simp [gcdN, h]
theorem gcdN_ok {a b : Int} (h : (inB a && inB b) = true) : gcdN a b = (((Nat.gcd a.natAbs b.natAbs : Nat) : Int), 0) := by simp [gcdN, h]

end Go.Proofs.Ytnacoglfhhenhaa

/-
  num: divide; the reference's divide.
-/
namespace Go.Proofs.Ytnacoglfhhenhaa
open Go.RowKit

theorem half_step (A j : Nat) : A / 2 ^ j = 2 * (A / 2 ^ (j + 1)) + A / 2 ^ j % 2 := by
  rw [Nat.pow_succ, ← Nat.div_div_eq_div_mul]; omega
theorem div_step {P B C q r b : Nat} (hC : 0 < C) (h : q * C + r = P * B) : (2 * q + (2 * r + b * B) / C) * C + (2 * r + b * B) % C = (2 * P + b) * B := by
  have h1 := Nat.div_add_mod (2 * r + b * B) C
  have e1 : (2 * q + (2 * r + b * B) / C) * C = 2 * (q * C) + C * ((2 * r + b * B) / C) := by rw [Nat.add_mul, Nat.mul_assoc, Nat.mul_comm C]
  have e2 : (2 * P + b) * B = 2 * (P * B) + b * B := by rw [Nat.add_mul, Nat.mul_assoc]
  omega
theorem quo_of {q r C T : Nat} (h : q * C + r = T) (hr : r < C) : q = T / C ∧ r = T % C := by
  subst h
  have hC : 0 < C := by omega
  rw [Nat.mul_comm, Nat.mul_add_div hC, Nat.mul_add_mod, Nat.div_eq_of_lt hr, Nat.mod_eq_of_lt hr]; omega

/-- What the reference's divide returns. -/
def divV (A B C : Nat) : Value := if A * B / C ≤ 1125899906842624 then .tuple #[.int .i64 ((A * B / C : Nat) : Int), .int .i64 ((A * B % C : Nat) : Int), .bool true] else .tuple #[.int .i64 0, .int .i64 0, .bool false]
theorem divV_ok {A B C : Nat} (h : A * B / C ≤ 1125899906842624) : divV A B C = .tuple #[.int .i64 ((A * B / C : Nat) : Int), .int .i64 ((A * B % C : Nat) : Int), .bool true] := if_pos h
theorem divV_bad {A B C : Nat} (h : ¬ A * B / C ≤ 1125899906842624) : divV A B C = .tuple #[.int .i64 0, .int .i64 0, .bool false] := if_neg h

end Go.Proofs.Ytnacoglfhhenhaa

/-
  num: divide.
-/
namespace Go.Proofs.Ytnacoglfhhenhaa
open Go.RowKit

theorem and_one' (i : Nat) (hi : i < 9223372036854775808) : bits BinOp.and IntKind.i64 (i : Int) 1 = ((i % 2 : Nat) : Int) := and_one i hi

set_option maxRecDepth 100000 in
set_option maxHeartbeats 800000 in
theorem numDivide_any (A B C : Nat) (hA : A < C) (hB : B ≤ 1125899906842624) (hC2 : C ≤ 1125899906842624) (w : World) :
    Calls Try.prog 57 #[.int .i64 A, .int .i64 B, .int .i64 C] w fun e w' =>
      e = .returned (.tuple #[.int .i64 ((A * B / C : Nat) : Int), .int .i64 ((A * B % C : Nat) : Int)]) ∧ w = w' := by
  have hC : 0 < C := by omega
  go_enter Try.func57, Try.ntmps57
  go_wp2
  go_loopw [8, 9, 10] (fun q r i wr => ∃ (k Q R : Nat), k ≤ 51 ∧ ((k = 0 ∧ i = .int .i64 (-1)) ∨ ∃ j : Nat, k = j + 1 ∧ i = .int .i64 j) ∧ q = .int .i64 Q ∧ r = .int .i64 R ∧ Q * C + R = B / 2 ^ k * A ∧ R < C ∧ wr = w) (fun _ _ i _ => (intOf i + 1).toNat)
  case atStart =>
    refine ⟨51, 0, 0, by omega, .inr ⟨50, rfl, rfl⟩, rfl, rfl, ?_, by omega, rfl⟩
    rw [Nat.div_eq_of_lt (by omega)]; simp
  case round =>
    obtain ⟨k, Q, R, hk, hi, rfl, rfl, hinv, hR, rfl⟩ := hrel
    rcases hi with ⟨rfl, rfl⟩ | ⟨j, rfl, rfl⟩
    · rw [Nat.pow_zero, Nat.div_one, Nat.mul_comm B] at hinv
      obtain ⟨e1, e2⟩ := quo_of hinv hR
      have E1 := Lib.hid e1
      have E2 := Lib.hid e2
      clear hinv e1 e2
      go_wp2
      go_ret2
      exact ⟨by rw [E1.out, E2.out]; rfl, rfl⟩
    · have Hinv := Lib.hid hinv
      have hh := half_step B j
      have hQ : Q ≤ B / 2 ^ (j + 1) := by
        have h1 : Q * C ≤ B / 2 ^ (j + 1) * C := Nat.le_trans (Nat.le_of_add_right_le (Nat.le_of_eq hinv)) (Nat.mul_le_mul_left _ (by omega))
        exact Nat.le_of_mul_le_mul_right h1 hC
      have hP2 : B / 2 ^ j ≤ B := Nat.div_le_self _ _
      have hb2 : B / 2 ^ j % 2 < 2 := Nat.mod_lt _ (by omega)
      have hj : min j 64 = j := by omega
      have hsh : (B : Int) / 2 ^ j = ((B / 2 ^ j : Nat) : Int) := by simp
      generalize hP : B / 2 ^ (j + 1) = P at *
      generalize hP1 : B / 2 ^ j = P1 at *
      have q0 : (0 : Int) ≤ (j : Int) := by omega
      have e0 : IntKind.i64.wrap (2 * (Q : Int)) = ((2 * Q : Nat) : Int) := by rw [IntWalk.i64_in _ (by omega)]; omega
      have e1 : IntKind.i64.wrap (2 * (R : Int)) = ((2 * R : Nat) : Int) := by rw [IntWalk.i64_in _ (by omega)]; omega
      have hand := and_one' P1 (by omega)
      have Hh := Lib.hid hh
      clear hinv hh
      have HP1 := Lib.hid hP1
      clear hP hP1
      rcases (by omega : P1 % 2 = 1 ∨ P1 % 2 = 0) with hbit | hbit
      · rw [hbit] at hand
        have e2 : IntKind.i64.wrap (2 * (R : Int) + A) = ((2 * R + A : Nat) : Int) := by rw [IntWalk.i64_in _ (by omega)]; omega
        have Hbit := Lib.hid hbit
        clear hbit
        go_wp2
        have hst : 2 * Q * C + (2 * R + A) = P1 * A := by
          have e1 := Hinv.out
          have e2 := Hh.out
          rw [Hbit.out] at e2
          rw [e2, Nat.add_mul, Nat.mul_assoc, Nat.mul_assoc, ← e1]; omega
        have hle : P1 * A ≤ P1 * C := Nat.mul_le_mul_left _ (by omega)
        have Hst := Lib.hid hst
        have Hle := Lib.hid hle
        clear hst hle
        go_loopw [8, 9] (fun q r wr2 => ∃ X Y : Nat, q = .int .i64 X ∧ r = .int .i64 Y ∧ X * C + Y = P1 * A ∧ Y ≤ 3377699720527872 ∧ wr2 = wr) (fun _ r _ => (intOf r).toNat)
        case atStart => exact ⟨2 * Q, 2 * R + A, by go_num, by go_num, Hst.out, by omega, rfl⟩
        case round =>
          obtain ⟨X, Y, rfl, rfl, hxy, hY, rfl⟩ := hrel
          have hX : X ≤ P1 := Nat.le_of_mul_le_mul_right (Nat.le_trans (Nat.le_of_add_right_le (Nat.le_of_eq hxy)) Hle.out) hC
          have Hxy := Lib.hid hxy
          clear hxy
          by_cases hge : C ≤ Y
          · have f1 : IntKind.i64.wrap ((X : Int) + 1) = ((X + 1 : Nat) : Int) := by rw [IntWalk.i64_in _ (by omega)]; omega
            have f2 : IntKind.i64.wrap ((Y : Int) - C) = ((Y - C : Nat) : Int) := by rw [IntWalk.i64_in _ (by omega)]; omega
            have f3 : decide ((C : Int) ≤ Y) = true := decide_eq_true (by omega)
            go_wp2
            refine ⟨⟨X + 1, Y - C, by go_num, by first | rfl | (congr 1; omega), ?_, by omega, by trivial⟩, by simp [intOf]; omega⟩
            have := Hxy.out
            rw [Nat.add_mul, Nat.one_mul]; omega
          · have f3 : decide ((C : Int) ≤ Y) = false := decide_eq_false (by omega)
            have f4 : IntKind.i64.wrap ((j : Int) - 1) = (j : Int) - 1 := IntWalk.i64_in _ (by omega)
            go_wp2
            refine ⟨⟨j, X, Y, by omega, ?_, rfl, rfl, ?_, by omega, by trivial⟩, by first | (simp [intOf]; done) | (simp [intOf]; omega)⟩
            · cases j with
              | zero => exact .inl ⟨rfl, rfl⟩
              | succ j => exact .inr ⟨j, rfl, by congr 1; omega⟩
            · rw [Hxy.out, HP1.out]
      · rw [hbit] at hand
        have Hbit := Lib.hid hbit
        clear hbit
        go_wp2
        have hst : 2 * Q * C + (2 * R) = P1 * A := by
          have e1 := Hinv.out
          have e2 := Hh.out
          rw [Hbit.out] at e2
          rw [e2, Nat.add_mul, Nat.mul_assoc, Nat.mul_assoc, ← e1]; omega
        have hle : P1 * A ≤ P1 * C := Nat.mul_le_mul_left _ (by omega)
        have Hst := Lib.hid hst
        have Hle := Lib.hid hle
        clear hst hle
        go_loopw [8, 9] (fun q r wr2 => ∃ X Y : Nat, q = .int .i64 X ∧ r = .int .i64 Y ∧ X * C + Y = P1 * A ∧ Y ≤ 3377699720527872 ∧ wr2 = wr) (fun _ r _ => (intOf r).toNat)
        case atStart => exact ⟨2 * Q, 2 * R, by go_num, by go_num, Hst.out, by omega, rfl⟩
        case round =>
          obtain ⟨X, Y, rfl, rfl, hxy, hY, rfl⟩ := hrel
          have hX : X ≤ P1 := Nat.le_of_mul_le_mul_right (Nat.le_trans (Nat.le_of_add_right_le (Nat.le_of_eq hxy)) Hle.out) hC
          have Hxy := Lib.hid hxy
          clear hxy
          by_cases hge : C ≤ Y
          · have f1 : IntKind.i64.wrap ((X : Int) + 1) = ((X + 1 : Nat) : Int) := by rw [IntWalk.i64_in _ (by omega)]; omega
            have f2 : IntKind.i64.wrap ((Y : Int) - C) = ((Y - C : Nat) : Int) := by rw [IntWalk.i64_in _ (by omega)]; omega
            have f3 : decide ((C : Int) ≤ Y) = true := decide_eq_true (by omega)
            go_wp2
            refine ⟨⟨X + 1, Y - C, by go_num, by first | rfl | (congr 1; omega), ?_, by omega, by trivial⟩, by simp [intOf]; omega⟩
            have := Hxy.out
            rw [Nat.add_mul, Nat.one_mul]; omega
          · have f3 : decide ((C : Int) ≤ Y) = false := decide_eq_false (by omega)
            have f4 : IntKind.i64.wrap ((j : Int) - 1) = (j : Int) - 1 := IntWalk.i64_in _ (by omega)
            go_wp2
            refine ⟨⟨j, X, Y, by omega, ?_, rfl, rfl, ?_, by omega, by trivial⟩, by first | (simp [intOf]; done) | (simp [intOf]; omega)⟩
            · cases j with
              | zero => exact .inl ⟨rfl, rfl⟩
              | succ j => exact .inr ⟨j, rfl, by congr 1; omega⟩
            · rw [Hxy.out, HP1.out]

end Go.Proofs.Ytnacoglfhhenhaa

/-
  num: up; what Scale computes.
-/
namespace Go.Proofs.Ytnacoglfhhenhaa
open Go.RowKit

/-- Whether an absolute value is rounded up. -/
def upB (mode : Int) (neg : Bool) (q r c : Nat) : Bool :=
  if mode = 0 then neg && decide (0 < r) else if mode = 1 then !neg && decide (0 < r) else if mode = 2 then decide (c ≤ 2 * r) else decide (c < 2 * r) || (decide (2 * r = c) && decide (q % 2 = 1))

theorem upB0 (neg : Bool) (q r c : Nat) : upB 0 neg q r c = (neg && decide (0 < r)) := rfl
theorem upB1 (neg : Bool) (q r c : Nat) : upB 1 neg q r c = (!neg && decide (0 < r)) := rfl
theorem upB2 (neg : Bool) (q r c : Nat) : upB 2 neg q r c = decide (c ≤ 2 * r) := rfl
theorem upB3 (neg : Bool) (q r c : Nat) : upB 3 neg q r c = (decide (c < 2 * r) || (decide (2 * r = c) && decide (q % 2 = 1))) := rfl

set_option maxHeartbeats 800000 in
theorem numUp_any (mode : Int) (neg : Bool) (q r c : Nat) (hm : 0 ≤ mode ∧ mode ≤ 3) (hr : r < c) (hc : c ≤ 1125899906842624) (hq : q ≤ 2251799813685248) (w : World) :
    Calls Try.prog 58 #[.int .i64 mode, .bool neg, .int .i64 q, .int .i64 r, .int .i64 c] w fun e w' => e = .returned (.bool (upB mode neg q r c)) ∧ w = w' := by
  have f2 : IntKind.i64.wrap ((c : Int) - r) = (c : Int) - r := IntWalk.i64_in _ (by omega)
  rcases (by omega : mode = 0 ∨ mode = 1 ∨ mode = 2 ∨ mode = 3) with rfl | rfl | rfl | rfl
  · have E := Lib.hid (upB0 neg q r c)
    cases neg
    all_goals
      by_cases h0 : 0 < r
      all_goals
        clear hr hc hq hm
        go_enter Try.func58, Try.ntmps58
        go_wp2
        go_ret
        exact ⟨ret_bool (by rw [E.out]; simp [*]), rfl⟩
  · have E := Lib.hid (upB1 neg q r c)
    cases neg
    all_goals
      by_cases h0 : 0 < r
      all_goals
        clear hr hc hq hm
        go_enter Try.func58, Try.ntmps58
        go_wp2
        go_ret
        exact ⟨ret_bool (by rw [E.out]; simp [*]), rfl⟩
  · have E := Lib.hid (upB2 neg q r c)
    by_cases h0 : c ≤ 2 * r
    · have f3 : decide ((c : Int) - r ≤ r) = true := decide_eq_true (by omega)
      have E2 := Lib.hid (decide_eq_true h0)
      clear hr hc hq hm h0
      go_enter Try.func58, Try.ntmps58
      go_wp2
      go_ret
      exact ⟨ret_bool (by rw [E.out, E2.out]), rfl⟩
    · have f3 : decide ((c : Int) - r ≤ r) = false := decide_eq_false (by omega)
      have E2 := Lib.hid (decide_eq_false h0)
      clear hr hc hq hm h0
      go_enter Try.func58, Try.ntmps58
      go_wp2
      go_ret
      exact ⟨ret_bool (by rw [E.out, E2.out]), rfl⟩
  · have E := Lib.hid (upB3 neg q r c)
    have eq : (q : Int).tmod 2 = ((q % 2 : Nat) : Int) := by rw [Int.tmod_eq_emod_of_nonneg (by omega)]; simp
    by_cases h0 : c < 2 * r
    · have f3 : decide ((c : Int) - r < r) = true := decide_eq_true (by omega)
      have E2 := Lib.hid (decide_eq_true h0)
      clear hr hc hq hm h0 eq
      go_enter Try.func58, Try.ntmps58
      go_wp2
      go_ret
      exact ⟨ret_bool (by rw [E.out, E2.out]; rfl), rfl⟩
    · have f3 : decide ((c : Int) - r < r) = false := decide_eq_false (by omega)
      have E2 := Lib.hid (decide_eq_false h0)
      by_cases h1 : 2 * r = c
      · have f4 : ((r : Int) == (c : Int) - r) = true := by rw [beq_iff_eq]; omega
        have E3 := Lib.hid (decide_eq_true h1)
        rcases (by omega : q % 2 = 1 ∨ q % 2 = 0) with h2 | h2
        · rw [h2] at eq
          have e3 : (q : Int) % 2 = 1 := by omega
          have E4 := Lib.hid (decide_eq_true h2)
          clear hr hc hq hm h0 h1 h2
          go_enter Try.func58, Try.ntmps58
          go_wp2
          go_ret
          exact ⟨ret_bool (by rw [E.out, E2.out, E3.out, E4.out]; rfl), rfl⟩
        · rw [h2] at eq
          have e3 : (q : Int) % 2 = 0 := by omega
          have E4 := Lib.hid (decide_eq_false (show ¬ q % 2 = 1 by omega))
          clear hr hc hq hm h0 h1 h2
          go_enter Try.func58, Try.ntmps58
          go_wp2
          go_ret
          exact ⟨ret_bool (by rw [E.out, E2.out, E3.out, E4.out]; rfl), rfl⟩
      · have f4 : ((r : Int) == (c : Int) - r) = false := by rw [beq_eq_false_iff_ne]; omega
        have E3 := Lib.hid (decide_eq_false h1)
        clear hr hc hq hm h0 h1 eq
        go_enter Try.func58, Try.ntmps58
        go_wp2
        go_ret
        exact ⟨ret_bool (by rw [E.out, E2.out, E3.out]; rfl), rfl⟩

end Go.Proofs.Ytnacoglfhhenhaa

/-
  num: what Scale computes; Scale.
-/
namespace Go.Proofs.Ytnacoglfhhenhaa
open Go.RowKit

def negB (a b c : Int) : Bool := (decide (a < 0) != decide (b < 0)) != decide (c < 0)
/-- The rounded absolute value of a * b / c. -/
def quoN (a b c mode : Int) : Nat :=
  a.natAbs * b.natAbs / c.natAbs + (if upB mode (negB a b c) (a.natAbs * b.natAbs / c.natAbs) (a.natAbs * b.natAbs % c.natAbs) c.natAbs then 1 else 0)
def signN (neg : Bool) (q : Nat) : Int := if neg then -(q : Int) else q
def goodN (a b c mode : Int) : Bool := inB a && (inB b && inB c) && decide (c ≠ 0) && decide (0 ≤ mode) && decide (mode ≤ 3)
def scaleN (a b c mode : Int) : Int × Int := if goodN a b c mode then chkN (signN (negB a b c) (quoN a b c mode)) else (0, 1)
theorem scaleN_bad {a b c mode : Int} (h : goodN a b c mode = false) : scaleN a b c mode = (0, 1) := by simp [scaleN, h]
theorem scaleN_ok {a b c mode : Int} (h : goodN a b c mode = true) : scaleN a b c mode = chkN (signN (negB a b c) (quoN a b c mode)) := by simp [scaleN, h]
theorem chk_over {neg : Bool} {q : Nat} (h : 1125899906842624 < q) : chkN (signN neg q) = (0, 2) := by
  refine chkN_bad (inB_false.2 ?_)
  cases neg <;> simp only [signN] <;> simp <;> omega

theorem good_cases {a b c mode : Int} (h : goodN a b c mode = false) : (inB a && (inB b && inB c)) = false ∨ ((inB a && (inB b && inB c)) = true ∧ (c = 0 ∨ c ≠ 0 ∧ (mode < 0 ∨ ¬ mode < 0 ∧ 3 < mode))) := by
  cases h1 : (inB a && (inB b && inB c))
  · exact .inl rfl
  · refine .inr ⟨rfl, ?_⟩
    unfold goodN at h
    rw [h1] at h
    by_cases hc : c = 0
    · exact .inl hc
    · refine .inr ⟨hc, ?_⟩
      by_cases hm : mode < 0
      · exact .inl hm
      · refine .inr ⟨hm, ?_⟩
        simp [hc] at h
        omega

set_option maxHeartbeats 400000 in
theorem numScale_bad (a b c mode : Int) (h : goodN a b c mode = false) (w : World) : Calls Try.prog 39 #[.int .i64 a, .int .i64 b, .int .i64 c, .int .i64 mode] w fun e w' => e = .returned (.tuple #[.int .i64 0, .int .i64 1]) ∧ Mod NoBlock w w' := by
  rcases good_cases h with h1 | ⟨h1, rfl | ⟨h2, h3 | ⟨h3, h4⟩⟩⟩
  all_goals
    have h' := Lib.hid h1
    try have hc0 : (c == 0) = false := by rw [beq_eq_false_iff_ne]; exact h2
    clear h h1
    try clear h2
    go_enter Try.func39, Try.ntmps39
    go_wp2_with (go_at_call 55; refine (numIn3 a b _ _ _).mono ?_; rintro e w9 ⟨rfl, hmc⟩; rw [h'.out])
    go_ret2
    exact ⟨rfl, hmc⟩

end Go.Proofs.Ytnacoglfhhenhaa

/-
  num.Scale.
-/
namespace Go.Proofs.Ytnacoglfhhenhaa
open Go.RowKit

theorem good_true {a b c mode : Int} (h : goodN a b c mode = true) : (inB a && (inB b && inB c)) = true ∧ c ≠ 0 ∧ 0 ≤ mode ∧ mode ≤ 3 := by
  unfold goodN at h
  simp only [Bool.and_eq_true, decide_eq_true_eq] at h ⊢
  exact ⟨h.1.1.1, h.1.1.2, h.1.2, h.2⟩
theorem whole_quo {X Y Z : Nat} (hZ : 0 < Z) : X % Z * Y / Z + X / Z * Y = X * Y / Z ∧ X % Z * Y % Z = X * Y % Z := by
  have h := Nat.div_add_mod X Z
  have e : X * Y = Z * (X / Z * Y) + X % Z * Y := by
    conv => lhs; rw [← h]
    rw [Nat.add_mul, Nat.mul_assoc]
  rw [e, Nat.mul_add_div hZ, Nat.mul_add_mod]; omega

theorem numDivide_n (A B C D R : Nat) (hA : A < C) (hB : B ≤ 1125899906842624) (hC2 : C ≤ 1125899906842624) (hD : A * B / C = D) (hR : A * B % C = R) (w : World) :
    Calls Try.prog 57 #[.int .i64 A, .int .i64 B, .int .i64 C] w fun e w' => e = .returned (.tuple #[.int .i64 D, .int .i64 R]) ∧ w = w' := by
  subst hD; subst hR; exact numDivide_any A B C hA hB hC2 w

set_option maxRecDepth 100000 in
set_option maxHeartbeats 800000 in
theorem numScale_ok (a b c mode : Int) (h : goodN a b c mode = true) (w : World) : Calls Try.prog 39 #[.int .i64 a, .int .i64 b, .int .i64 c, .int .i64 mode] w fun e w' => e = .returned (.tuple #[.int .i64 (scaleN a b c mode).1, .int .i64 (scaleN a b c mode).2]) ∧ Mod NoBlock w w' := by
  have hs := scaleN_ok h
  obtain ⟨h1, hc, hm0, hm3⟩ := good_true h
  have h' := Lib.hid h1
  have hin := h1
  simp only [Bool.and_eq_true] at hin
  have ia := inB_true.1 hin.1
  have ib := inB_true.1 hin.2.1
  have ic := inB_true.1 hin.2.2
  have hc0 : (c == 0) = false := by rw [beq_eq_false_iff_ne]; exact hc
  have g1 : decide (mode < 0) = false := decide_eq_false (by omega)
  have g2 : decide (3 < mode) = false := decide_eq_false (by omega)
  obtain ⟨X, hX⟩ : ∃ X : Nat, a.natAbs = X := ⟨_, rfl⟩
  obtain ⟨Y, hY⟩ : ∃ X : Nat, b.natAbs = X := ⟨_, rfl⟩
  obtain ⟨Z, hZ⟩ : ∃ X : Nat, c.natAbs = X := ⟨_, rfl⟩
  have eX : absN a = (X : Int) := by simp only [absN, hX]
  have eY : absN b = (Y : Int) := by simp only [absN, hY]
  have eZ : absN c = (Z : Int) := by simp only [absN, hZ]
  have bX : X ≤ 1125899906842624 := by omega
  have bY : Y ≤ 1125899906842624 := by omega
  have bZ : Z ≤ 1125899906842624 := by omega
  have pZ : 0 < Z := by omega
  have zZ : ((Z : Int) == 0) = false := by rw [beq_eq_false_iff_ne]; omega
  obtain ⟨na, hna⟩ : ∃ v : Bool, decide (a < 0) = v := ⟨_, rfl⟩
  obtain ⟨nb, hnb⟩ : ∃ v : Bool, decide (b < 0) = v := ⟨_, rfl⟩
  obtain ⟨nc, hnc⟩ : ∃ v : Bool, decide (c < 0) = v := ⟨_, rfl⟩
  have hneg : negB a b c = ((na != nb) != nc) := by simp only [negB, hna, hnb, hnc]
  have hq : quoN a b c mode = X * Y / Z + (if upB mode ((na != nb) != nc) (X * Y / Z) (X * Y % Z) Z then 1 else 0) := by simp only [quoN, hX, hY, hZ, hneg]
  obtain ⟨hw1, hw2⟩ := whole_quo (X := X) (Y := Y) pZ
  obtain ⟨Q, hQd⟩ : ∃ D, X * Y / Z = D := ⟨_, rfl⟩
  obtain ⟨R, hRd⟩ : ∃ D, X * Y % Z = D := ⟨_, rfl⟩
  have hRZ : R < Z := by rw [← hRd]; exact Nat.mod_lt _ pZ
  have HRZ := Lib.hid hRZ
  rw [hQd, hRd] at hq
  obtain ⟨ng, hng⟩ : ∃ v : Bool, ((na != nb) != nc) = v := ⟨_, rfl⟩
  have hng2 : (!(!na == nb) == nc) = ng := by rw [← hng]; cases na <;> cases nb <;> cases nc <;> rfl
  rw [hng] at hq hneg
  obtain ⟨u, hu⟩ : ∃ u, upB mode ng Q R Z = u := ⟨_, rfl⟩
  rw [hu] at hq
  have Hu := Lib.hid hu
  have Hs := Lib.hid (show scaleN a b c mode = chkN (signN ng (Q + if u then 1 else 0)) by rw [hs, hq, hneg])
  have Hr := Lib.hid (show (-1125899906842624 ≤ a ∧ a ≤ 1125899906842624) ∧ (-1125899906842624 ≤ b ∧ b ≤ 1125899906842624) ∧ (-1125899906842624 ≤ c ∧ c ≤ 1125899906842624) from ⟨ia, ib, ic⟩)
  have Hm := Lib.hid (show 0 ≤ mode ∧ mode ≤ 3 from ⟨hm0, hm3⟩)
  have HbX := Lib.hid bX
  have HbY := Lib.hid bY
  have HbZ := Lib.hid bZ
  clear hng h1 hin h hX hY hZ ia ib ic hneg hq hs hu hRZ hm0 hm3 hc
  by_cases hXZ : X < Z
  · have HXZ := Lib.hid hXZ
    have eD : (X : Int) / Z = 0 := by rw [Int.ediv_eq_zero_of_lt (by omega) (by omega)]
    have eD2 : (X : Int).tdiv Z = 0 := by rw [Int.tdiv_eq_ediv_of_nonneg (by omega)]; exact eD
    have eM : (X : Int) % Z = X := Int.emod_eq_of_lt (by omega) (by omega)
    have eM2 : (X : Int).tmod Z = X := by rw [Int.tmod_eq_emod_of_nonneg (by omega)]; exact eM
    have hQY : Q ≤ 1125899906842624 := by
      rw [← hQd]
      have := Nat.mul_le_mul_right Y (Nat.le_of_lt hXZ)
      exact Nat.le_trans (Nat.div_le_of_le_mul this) bY
    have HQY := Lib.hid hQY
    have HQd := Lib.hid hQd
    have HRd := Lib.hid hRd
    have pZi : (0 : Int) < Z := by omega
    clear hQd hRd hXZ hQY pZ bX bY bZ
    go_enter Try.func39, Try.ntmps39
    go_wp2_with fail
    refine (numIn3 a b _ _ _).mono ?_; rintro e w9 ⟨rfl, hmc⟩; rw [h'.out]; have Hmc := Lib.hid hmc; clear hmc
    go_wp2_with fail
    refine (numAbs_any _ (by have := Hr.out; omega) _).mono ?_; rintro e w8 ⟨rfl, rfl⟩
    go_wp2_with fail
    refine (numAbs_any _ (by have := Hr.out; omega) _).mono ?_; rintro e w8 ⟨rfl, rfl⟩
    go_wp2_with fail
    refine (numAbs_any _ (by have := Hr.out; omega) _).mono ?_; rintro e w8 ⟨rfl, rfl⟩
    go_wp2_with fail
    refine (numDivide_n _ _ _ _ _ HXZ.out HbY.out HbZ.out HQd.out HRd.out _).mono ?_; rintro e w8 ⟨rfl, rfl⟩
    have b1 : (Q : Int) ≤ 1125899906842624 := by have := HQY.out; omega
    go_wp2_with fail
    refine (numUp_any _ _ _ _ _ Hm.out HRZ.out HbZ.out (by have := HQY.out; omega) _).mono ?_; rintro e w8 ⟨rfl, rfl⟩
    rw [Hu.out]
    clear hng2
    cases u
    all_goals cases ng
    all_goals go_wp2_with fail
    all_goals (refine (checked_any _ _).mono ?_; rintro e w8 ⟨rfl, hmd⟩)
    all_goals go_wp2
    all_goals go_ret2
    all_goals (rw [Hs.out]; exact ⟨by simp [signN], Hmc.out.trans hmd⟩)
  · obtain ⟨hw1, hw2⟩ := whole_quo (X := X) (Y := Y) pZ
    rw [hQd] at hw1
    rw [hRd] at hw2
    have hV : X % Z < Z := Nat.mod_lt _ pZ
    have hW1 : 1 ≤ X / Z := Nat.div_pos (by omega) pZ
    have hW2 : X / Z ≤ X := Nat.div_le_self _ _
    have eD : (X : Int) / Z = ((X / Z : Nat) : Int) := by simp
    have eD2 : (X : Int).tdiv Z = ((X / Z : Nat) : Int) := by rw [Int.tdiv_eq_ediv_of_nonneg (by omega)]; simp
    have eM : (X : Int) % Z = ((X % Z : Nat) : Int) := by simp
    have eM2 : (X : Int).tmod Z = ((X % Z : Nat) : Int) := by rw [Int.tmod_eq_emod_of_nonneg (by omega)]; simp
    have hDY : X % Z * Y / Z ≤ Y := Nat.div_le_of_le_mul (Nat.mul_le_mul_right Y (Nat.le_of_lt hV))
    clear hQd hRd
    generalize X / Z = W at *
    generalize X % Z = V at *
    obtain ⟨D, hDd⟩ : ∃ D, V * Y / Z = D := ⟨_, rfl⟩
    rw [hDd] at hw1 hDY
    have eMW : (1125899906842624 : Int) / W = ((1125899906842624 / W : Nat) : Int) := by simp
    have eMW2 : (1125899906842624 : Int).tdiv W = ((1125899906842624 / W : Nat) : Int) := by rw [Int.tdiv_eq_ediv_of_nonneg (by omega)]; simp
    have hle := @Nat.le_div_iff_mul_le W Y 1125899906842624 (by omega)
    have hML : 1125899906842624 / W ≤ 1125899906842624 := Nat.div_le_self _ _
    obtain ⟨M, hM⟩ : ∃ M, 1125899906842624 / W = M := ⟨_, rfl⟩
    rw [hM] at eMW eMW2 hle hML
    rw [Nat.mul_comm] at hle
    have eP2 : (W : Int) * Y = ((W * Y : Nat) : Int) := by simp
    generalize W * Y = P at *
    have hWz : ((W : Int) != 0) = true := by rw [bne_iff_ne]; omega
    have HXZ := Lib.hid hV
    have HDd := Lib.hid hDd
    have HRd := Lib.hid hw2
    have HW := Lib.hid (show D + P = Q ∧ D ≤ Y from ⟨hw1, hDY⟩)
    have w1 : (1 : Int) ≤ W := by omega
    have w2 : (W : Int) ≤ 1125899906842624 := by omega
    have w3 : (0 : Int) < W := by omega
    have w4 : (M : Int) ≤ 1125899906842624 := by omega
    have pZi : (0 : Int) < Z := by omega
    by_cases hov : Y ≤ M
    · have HQ := Lib.hid (show D + P = Q ∧ P ≤ 1125899906842624 ∧ D ≤ 1125899906842624 from ⟨hw1, hle.1 hov, by omega⟩)
      have dM : decide (M < Y) = false := decide_eq_false (by omega)
      clear hov hle hM hDd hw1 hw2 hV hDY hW1 hW2 hXZ pZ bX bY bZ hML
      go_enter Try.func39, Try.ntmps39
      go_wp2_with fail
      refine (numIn3 a b _ _ _).mono ?_; rintro e w9 ⟨rfl, hmc⟩; rw [h'.out]; have Hmc := Lib.hid hmc; clear hmc
      go_wp2_with fail
      refine (numAbs_any _ (by have := Hr.out; omega) _).mono ?_; rintro e w8 ⟨rfl, rfl⟩
      go_wp2_with fail
      refine (numAbs_any _ (by have := Hr.out; omega) _).mono ?_; rintro e w8 ⟨rfl, rfl⟩
      go_wp2_with fail
      refine (numAbs_any _ (by have := Hr.out; omega) _).mono ?_; rintro e w8 ⟨rfl, rfl⟩
      go_wp2_with fail
      refine (numDivide_n _ _ _ _ _ HXZ.out HbY.out HbZ.out HDd.out HRd.out _).mono ?_; rintro e w8 ⟨rfl, rfl⟩
      have p1 : (P : Int) ≤ 1125899906842624 := by have := HQ.out; omega
      have p2 : (D : Int) ≤ 1125899906842624 := by have := HQ.out; omega
      have p3 : (D : Int) + P = Q := by have := HQ.out; omega
      have b1 : (Q : Int) ≤ 2251799813685248 := by have := HQ.out; omega
      go_wp2_with fail
      refine (numUp_any _ _ _ _ _ Hm.out HRZ.out HbZ.out (by have := HQ.out; omega) _).mono ?_; rintro e w8 ⟨rfl, rfl⟩
      rw [Hu.out]
      clear hng2
      cases u
      all_goals cases ng
      all_goals go_wp2_with fail
      all_goals (refine (checked_any _ _).mono ?_; rintro e w8 ⟨rfl, hmd⟩)
      all_goals go_wp2
      all_goals go_ret2
      all_goals (rw [Hs.out]; exact ⟨by simp [signN], Hmc.out.trans hmd⟩)
    · have HQ := Lib.hid (show 1125899906842624 < Q from by have : ¬ P ≤ 1125899906842624 := fun h => hov (hle.2 h); omega)
      have dM : decide (M < Y) = true := decide_eq_true (by omega)
      clear hov hle hM hDd hw1 hw2 hV hDY hW1 hW2 hXZ pZ bX bY bZ hML
      go_enter Try.func39, Try.ntmps39
      go_wp2_with fail
      refine (numIn3 a b _ _ _).mono ?_; rintro e w9 ⟨rfl, hmc⟩; rw [h'.out]; have Hmc := Lib.hid hmc; clear hmc
      go_wp2_with fail
      refine (numAbs_any _ (by have := Hr.out; omega) _).mono ?_; rintro e w8 ⟨rfl, rfl⟩
      go_wp2_with fail
      refine (numAbs_any _ (by have := Hr.out; omega) _).mono ?_; rintro e w8 ⟨rfl, rfl⟩
      go_wp2_with fail
      refine (numAbs_any _ (by have := Hr.out; omega) _).mono ?_; rintro e w8 ⟨rfl, rfl⟩
      go_wp2
      go_ret2
      rw [Hs.out, chk_over (by have := HQ.out; omega)]
      exact ⟨rfl, Hmc.out⟩

end Go.Proofs.Ytnacoglfhhenhaa

/-
  num.Scale, the reference's Scale and the two Mul.
-/
namespace Go.Proofs.Ytnacoglfhhenhaa
open Go.RowKit

theorem numScale_any (a b c mode : Int) (w : World) : Calls Try.prog 39 #[.int .i64 a, .int .i64 b, .int .i64 c, .int .i64 mode] w fun e w' => e = .returned (.tuple #[.int .i64 (scaleN a b c mode).1, .int .i64 (scaleN a b c mode).2]) ∧ Mod NoBlock w w' := by
  cases h : goodN a b c mode
  · rw [scaleN_bad h]; exact numScale_bad a b c mode h w
  · exact numScale_ok a b c mode h w

theorem bad_cases {a b c mode : Int} (h : goodN a b c mode = false) : inB a = false ∨ (inB a = true ∧ (inB b = false ∨ (inB b = true ∧ (inB c = false ∨ (inB c = true ∧ (c = 0 ∨ c ≠ 0 ∧ (mode < 0 ∨ ¬ mode < 0 ∧ 3 < mode))))))) := by
  rcases good_cases h with h1 | ⟨h1, h2⟩
  · cases ha : inB a
    · exact .inl rfl
    · refine .inr ⟨rfl, ?_⟩
      cases hb : inB b
      · exact .inl rfl
      · refine .inr ⟨rfl, .inl ?_⟩
        simpa [ha, hb] using h1
  · simp only [Bool.and_eq_true] at h1
    exact .inr ⟨h1.1, .inr ⟨h1.2.1, .inr ⟨h1.2.2, h2⟩⟩⟩

theorem divV_ok' {X Y Z Q R : Nat} (h : X * Y / Z = Q) (h2 : X * Y % Z = R) (hq : Q ≤ 1125899906842624) : divV X Y Z = .tuple #[.int .i64 Q, .int .i64 R, .bool true] := by subst h; subst h2; exact divV_ok hq

end Go.Proofs.Ytnacoglfhhenhaa
