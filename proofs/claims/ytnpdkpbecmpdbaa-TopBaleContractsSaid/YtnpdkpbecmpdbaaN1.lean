/-
  Several texts in one.
-/
import Derived.Test.YtnpdkpbecmpdbaaMem
import Derived.Test.YtnpdkpbecmpdbaaRows
import Derived.Lib.RabinKarpLaws
import Derived.Deep.DeepCutAuto
import Derived.Deep.CutBlock
set_option linter.unusedVariables false
set_option linter.unusedSimpArgs false
/-
  What the functions of num compute, in plain Lean.
-/
namespace Go.Proofs.Ytnpdkpbecmpdbaa

/-- In range. -/
def inB (a : Int) : Bool := decide (-1125899906842624 ≤ a) && decide (a ≤ 1125899906842624)
theorem inB_true {a : Int} : inB a = true ↔ -1125899906842624 ≤ a ∧ a ≤ 1125899906842624 := by simp [inB]
theorem inB_false {a : Int} : inB a = false ↔ a < -1125899906842624 ∨ 1125899906842624 < a := by
  have := @inB_true a
  cases h : inB a <;> simp [h] at this ⊢ <;> omega
/-- A result, or the error. -/
def chkN (a : Int) : Int × Int := if inB a then (a, 0) else (0, 2)
theorem chkN_ok {a : Int} (h : inB a = true) : chkN a = (a, 0) := by simp [chkN, h]
theorem chkN_bad {a : Int} (h : inB a = false) : chkN a = (0, 2) := by simp [chkN, h]
def addN (a b : Int) : Int × Int := if inB a && inB b then chkN (a + b) else (0, 1)
def subN (a b : Int) : Int × Int := if inB a && inB b then chkN (a - b) else (0, 1)

/-- The absolute value. -/
def absN (a : Int) : Int := a.natAbs
theorem absN_neg {a : Int} (h : a < 0) : absN a = -a := by simp only [absN]; omega
theorem absN_pos {a : Int} (h : 0 ≤ a) : absN a = a := by simp only [absN]; omega

end Go.Proofs.Ytnpdkpbecmpdbaa

/-
  num: in, checked, abs, Add, Sub; the reference's In, bounded, abs, Add, Sub.
-/
namespace Go.Proofs.Ytnpdkpbecmpdbaa
open Go.RowKit

set_option maxHeartbeats 400000 in
/-- num.in of any numbers. -/
theorem numIn_any (a : Option Addr) (c : Nat) (xs : List Int) (D : Nat → Prop) (w : World) (hx : Ints D w a xs) :
    Calls Try.prog 70 #[.slice a xs.length c] w fun e w' => e = .returned (.bool (xs.all inB)) ∧ w = w' := by
  obtain ⟨hl, b, off, ha, hc⟩ := hx.open
  clear hx
  have Ha := Lib.hid ha
  have Hc := Lib.hid hc
  clear ha hc
  go_enter Try.func70, Try.ntmps70
  go_wp2
  go_loopw [7] (fun i wr => ∃ k : Nat, k ≤ xs.length ∧ i = .int .i64 k ∧ wr = w ∧ (xs.take k).all inB = true) (fun i _ => xs.length - (intOf i).toNat)
  case atStart => exact ⟨0, by omega, rfl, rfl, by simp⟩
  case round =>
    obtain ⟨k, hk, rfl, rfl, ht⟩ := hrel
    have Ht := Lib.hid ht
    clear ht
    by_cases hkn : k < xs.length
    · obtain rfl := Ha.out (by intro e; subst e; simp at hkn)
      have h1 := (Hc.out k hkn)
      have q1 : (0 : Int) ≤ (k : Int) := by omega
      have q2 : (k : Int) < (xs.length : Int) := by omega
      generalize hv : ix xs k = v at h1
      have Hv := Lib.hid hv
      clear hv
      by_cases hin : inB v = true
      · obtain ⟨i1, i2⟩ := inB_true.1 hin
        have d1 : decide (v < -1125899906842624) = false := decide_eq_false (by omega)
        have d2 : decide (1125899906842624 < v) = false := decide_eq_false (by omega)
        have Hin := Lib.hid hin
        clear hin i1 i2
        go_wp2
        refine ⟨⟨k + 1, by omega, by go_num, by trivial, ?_⟩, by simp [intOf]; omega⟩
        rw [take_ix hkn, List.all_append, Ht.out, Hv.out]
        simp [Hin.out]
      · have hin' : inB v = false := by simpa using hin
        have hall : xs.all inB = false := by
          rw [List.all_eq_false]
          exact ⟨xs[k], List.getElem_mem hkn, by rw [← ix_eq hkn, Hv.out]; simpa using hin'⟩
        have Hall := Lib.hid hall
        clear hall hin
        by_cases hlo : v < -1125899906842624
        · clear hin'
          go_wp2
          go_ret
          exact ⟨ret_bool Hall.out.symm, rfl⟩
        · have hhi : 1125899906842624 < v := by
            rcases inB_false.1 hin' with h | h
            · omega
            · exact h
          clear hin'
          go_wp2
          go_ret
          exact ⟨ret_bool Hall.out.symm, rfl⟩
    · go_wp2
      go_ret
      refine ⟨ret_bool ?_, rfl⟩
      have := Ht.out
      rw [List.take_of_length_le (by omega)] at this
      exact this.symm

theorem numIn1 (a : Int) (t : TypeId) (w : World) : Calls Try.prog 70 #[.slice (some ⟨w.heap.size, 0, Option.none⟩) 1 1] (w.alloc (.cells #[.int .i64 a] t)) fun e w' => e = .returned (.bool (inB a)) ∧ Mod NoBlock w w' :=
  (numIn_any _ 1 [a] (fun _ => True) _ (Ints.one _ _ _ _ trivial)).mono fun e w' ⟨h1, h2⟩ => ⟨by rw [h1]; simp, by rw [← h2]; exact (Mod.refl _ _).alloc _⟩
theorem numIn2 (a b : Int) (t : TypeId) (w : World) : Calls Try.prog 70 #[.slice (some ⟨w.heap.size, 0, Option.none⟩) 2 2] (w.alloc (.cells #[.int .i64 a, .int .i64 b] t)) fun e w' => e = .returned (.bool (inB a && inB b)) ∧ Mod NoBlock w w' :=
  (numIn_any _ 2 [a, b] (fun _ => True) _ (Ints.pair _ _ _ _ _ trivial)).mono fun e w' ⟨h1, h2⟩ => ⟨by rw [h1]; simp, by rw [← h2]; exact (Mod.refl _ _).alloc _⟩
theorem numIn3 (a b c : Int) (t : TypeId) (w : World) : Calls Try.prog 70 #[.slice (some ⟨w.heap.size, 0, Option.none⟩) 3 3] (w.alloc (.cells #[.int .i64 a, .int .i64 b, .int .i64 c] t)) fun e w' => e = .returned (.bool (inB a && (inB b && inB c))) ∧ Mod NoBlock w w' :=
  (numIn_any _ 3 [a, b, c] (fun _ => True) _ (Ints.three _ _ _ _ _ _ trivial)).mono fun e w' ⟨h1, h2⟩ => ⟨by rw [h1]; simp, by rw [← h2]; exact (Mod.refl _ _).alloc _⟩

theorem checked_any (a : Int) (w : World) : Calls Try.prog 71 #[.int .i64 a] w fun e w' => e = .returned (.tuple #[.int .i64 (chkN a).1, .int .i64 (chkN a).2]) ∧ Mod NoBlock w w' := by
  cases h : inB a
  all_goals
    have h' := Lib.hid h
    first | rw [chkN_bad h] | rw [chkN_ok h]
    clear h
    go_enter Try.func71, Try.ntmps71
    go_wp2_with (go_at_call 70; refine (numIn1 a _ _).mono ?_; rintro e w9 ⟨rfl, hmc⟩; rw [h'.out])
    go_ret2
    exact ⟨rfl, hmc⟩

theorem addN_bad {a b : Int} (h : (inB a && inB b) = false) : addN a b = (0, 1) := by simp [addN, h]
theorem addN_ok {a b : Int} (h : (inB a && inB b) = true) : addN a b = chkN (a + b) := by simp [addN, h]
theorem subN_bad {a b : Int} (h : (inB a && inB b) = false) : subN a b = (0, 1) := by simp [subN, h]
theorem subN_ok {a b : Int} (h : (inB a && inB b) = true) : subN a b = chkN (a - b) := by simp [subN, h]
theorem in_both {a b : Int} (h : (inB a && inB b) = true) : -1125899906842624 ≤ a ∧ a ≤ 1125899906842624 ∧ -1125899906842624 ≤ b ∧ b ≤ 1125899906842624 := by
  rw [Bool.and_eq_true] at h
  have h1 := inB_true.1 h.1
  have h2 := inB_true.1 h.2
  omega

end Go.Proofs.Ytnpdkpbecmpdbaa

/-
  num: abs, Gcd; the reference's abs, Gcd.
-/
namespace Go.Proofs.Ytnpdkpbecmpdbaa
open Go.RowKit

def gcdN (a b : Int) : Int × Int := if inB a && inB b then (((Nat.gcd a.natAbs b.natAbs : Nat) : Int), 0) else (0, 1)
theorem gcdN_bad {a b : Int} (h : (inB a && inB b) = false) : gcdN a b = (0, 1) := by simp [gcdN, h]
theorem gcdN_ok {a b : Int} (h : (inB a && inB b) = true) : gcdN a b = (((Nat.gcd a.natAbs b.natAbs : Nat) : Int), 0) := by simp [gcdN, h]

end Go.Proofs.Ytnpdkpbecmpdbaa

/-
  num: divide; the reference's divide.
-/
namespace Go.Proofs.Ytnpdkpbecmpdbaa
open Go.RowKit

theorem half_step (A j : Nat) : A / 2 ^ j = 2 * (A / 2 ^ (j + 1)) + A / 2 ^ j % 2 := by
  rw [Nat.pow_succ, ← Nat.div_div_eq_div_mul]; omega
theorem div_step {P B C q r b : Nat} (hC : 0 < C) (h : q * C + r = P * B) : (2 * q + (2 * r + b * B) / C) * C + (2 * r + b * B) % C = (2 * P + b) * B := by
  have h1 := Nat.div_add_mod (2 * r + b * B) C
  have e1 : (2 * q + (2 * r + b * B) / C) * C = 2 * (q * C) + C * ((2 * r + b * B) / C) := by rw [Nat.add_mul, Nat.mul_assoc, Nat.mul_comm C]
  have e2 : (2 * P + b) * B = 2 * (P * B) + b * B := by rw [Nat.add_mul, Nat.mul_assoc]
  omega
theorem quo_of {q r C T : Nat} (h : q * C + r = T) (hr : r < C) : q = T / C ∧ r = T % C := by
  subst h
  have hC : 0 < C := by omega
  rw [Nat.mul_comm, Nat.mul_add_div hC, Nat.mul_add_mod, Nat.div_eq_of_lt hr, Nat.mod_eq_of_lt hr]; omega

/-- What the reference's divide returns. -/
def divV (A B C : Nat) : Value := if A * B / C ≤ 1125899906842624 then .tuple #[.int .i64 ((A * B / C : Nat) : Int), .int .i64 ((A * B % C : Nat) : Int), .bool true] else .tuple #[.int .i64 0, .int .i64 0, .bool false]
theorem divV_ok {A B C : Nat} (h : A * B / C ≤ 1125899906842624) : divV A B C = .tuple #[.int .i64 ((A * B / C : Nat) : Int), .int .i64 ((A * B % C : Nat) : Int), .bool true] := if_pos h
theorem divV_bad {A B C : Nat} (h : ¬ A * B / C ≤ 1125899906842624) : divV A B C = .tuple #[.int .i64 0, .int .i64 0, .bool false] := if_neg h

end Go.Proofs.Ytnpdkpbecmpdbaa

/-
  num: divide.
-/
namespace Go.Proofs.Ytnpdkpbecmpdbaa
open Go.RowKit

theorem and_one' (i : Nat) (hi : i < 9223372036854775808) : bits BinOp.and IntKind.i64 (i : Int) 1 = ((i % 2 : Nat) : Int) := and_one i hi

end Go.Proofs.Ytnpdkpbecmpdbaa

/-
  num: up; what Scale computes.
-/
namespace Go.Proofs.Ytnpdkpbecmpdbaa
open Go.RowKit

/-- Whether an absolute value is rounded up. -/
def upB (mode : Int) (neg : Bool) (q r c : Nat) : Bool :=
  if mode = 0 then neg && decide (0 < r) else if mode = 1 then !neg && decide (0 < r) else if mode = 2 then decide (c ≤ 2 * r) else decide (c < 2 * r) || (decide (2 * r = c) && decide (q % 2 = 1))

theorem upB0 (neg : Bool) (q r c : Nat) : upB 0 neg q r c = (neg && decide (0 < r)) := rfl
theorem upB1 (neg : Bool) (q r c : Nat) : upB 1 neg q r c = (!neg && decide (0 < r)) := rfl
theorem upB2 (neg : Bool) (q r c : Nat) : upB 2 neg q r c = decide (c ≤ 2 * r) := rfl
theorem upB3 (neg : Bool) (q r c : Nat) : upB 3 neg q r c = (decide (c < 2 * r) || (decide (2 * r = c) && decide (q % 2 = 1))) := rfl

end Go.Proofs.Ytnpdkpbecmpdbaa

/-
  num: what Scale computes; Scale.
-/
namespace Go.Proofs.Ytnpdkpbecmpdbaa
open Go.RowKit

def negB (a b c : Int) : Bool := (decide (a < 0) != decide (b < 0)) != decide (c < 0)
/-- The rounded absolute value of a * b / c. -/
def quoN (a b c mode : Int) : Nat :=
  a.natAbs * b.natAbs / c.natAbs + (if upB mode (negB a b c) (a.natAbs * b.natAbs / c.natAbs) (a.natAbs * b.natAbs % c.natAbs) c.natAbs then 1 else 0)
def signN (neg : Bool) (q : Nat) : Int := if neg then -(q : Int) else q
def goodN (a b c mode : Int) : Bool := inB a && (inB b && inB c) && decide (c ≠ 0) && decide (0 ≤ mode) && decide (mode ≤ 3)
def scaleN (a b c mode : Int) : Int × Int := if goodN a b c mode then chkN (signN (negB a b c) (quoN a b c mode)) else (0, 1)
theorem scaleN_bad {a b c mode : Int} (h : goodN a b c mode = false) : scaleN a b c mode = (0, 1) := by simp [scaleN, h]
theorem scaleN_ok {a b c mode : Int} (h : goodN a b c mode = true) : scaleN a b c mode = chkN (signN (negB a b c) (quoN a b c mode)) := by simp [scaleN, h]
theorem chk_over {neg : Bool} {q : Nat} (h : 1125899906842624 < q) : chkN (signN neg q) = (0, 2) := by
  refine chkN_bad (inB_false.2 ?_)
  cases neg <;> simp only [signN] <;> simp <;> omega

theorem good_cases {a b c mode : Int} (h : goodN a b c mode = false) : (inB a && (inB b && inB c)) = false ∨ ((inB a && (inB b && inB c)) = true ∧ (c = 0 ∨ c ≠ 0 ∧ (mode < 0 ∨ ¬ mode < 0 ∧ 3 < mode))) := by
  cases h1 : (inB a && (inB b && inB c))
  · exact .inl rfl
  · refine .inr ⟨rfl, ?_⟩
    unfold goodN at h
    rw [h1] at h
    by_cases hc : c = 0
    · exact .inl hc
    · refine .inr ⟨hc, ?_⟩
      by_cases hm : mode < 0
      · exact .inl hm
      · refine .inr ⟨hm, ?_⟩
        simp [hc] at h
        omega

end Go.Proofs.Ytnpdkpbecmpdbaa

/-
  num.Scale.
-/
namespace Go.Proofs.Ytnpdkpbecmpdbaa
open Go.RowKit

theorem good_true {a b c mode : Int} (h : goodN a b c mode = true) : (inB a && (inB b && inB c)) = true ∧ c ≠ 0 ∧ 0 ≤ mode ∧ mode ≤ 3 := by
  unfold goodN at h
  simp only [Bool.and_eq_true, decide_eq_true_eq] at h ⊢
  exact ⟨h.1.1.1, h.1.1.2, h.1.2, h.2⟩
theorem whole_quo {X Y Z : Nat} (hZ : 0 < Z) : X % Z * Y / Z + X / Z * Y = X * Y / Z ∧ X % Z * Y % Z = X * Y % Z := by
  have h := Nat.div_add_mod X Z
  have e : X * Y = Z * (X / Z * Y) + X % Z * Y := by
    conv => lhs; rw [← h]
    rw [Nat.add_mul, Nat.mul_assoc]
  rw [e, Nat.mul_add_div hZ, Nat.mul_add_mod]; omega

end Go.Proofs.Ytnpdkpbecmpdbaa

/-
  num.Scale, the reference's Scale and the two Mul.
-/
namespace Go.Proofs.Ytnpdkpbecmpdbaa
open Go.RowKit

theorem bad_cases {a b c mode : Int} (h : goodN a b c mode = false) : inB a = false ∨ (inB a = true ∧ (inB b = false ∨ (inB b = true ∧ (inB c = false ∨ (inB c = true ∧ (c = 0 ∨ c ≠ 0 ∧ (mode < 0 ∨ ¬ mode < 0 ∧ 3 < mode))))))) := by
  rcases good_cases h with h1 | ⟨h1, h2⟩
  · cases ha : inB a
    · exact .inl rfl
    · refine .inr ⟨rfl, ?_⟩
      cases hb : inB b
      · exact .inl rfl
      · refine .inr ⟨rfl, .inl ?_⟩
        simpa [ha, hb] using h1
  · simp only [Bool.and_eq_true] at h1
    exact .inr ⟨h1.1, .inr ⟨h1.2.1, .inr ⟨h1.2.2, h2⟩⟩⟩

theorem divV_ok' {X Y Z Q R : Nat} (h : X * Y / Z = Q) (h2 : X * Y % Z = R) (hq : Q ≤ 1125899906842624) : divV X Y Z = .tuple #[.int .i64 Q, .int .i64 R, .bool true] := by subst h; subst h2; exact divV_ok hq

end Go.Proofs.Ytnpdkpbecmpdbaa
