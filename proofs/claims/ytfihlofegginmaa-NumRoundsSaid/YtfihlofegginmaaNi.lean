/-
  num.Mul and the reference's Mul.
-/
import Derived.Test.YtfihlofegginmaaNh
set_option linter.unusedVariables false
set_option linter.unusedSimpArgs false
namespace Go.Proofs.Ytfihlofegginmaa
open Go.RowKit

theorem refScale_any (a b c mode : Int) (w : World) : Calls Try.prog 16 #[.int .i64 a, .int .i64 b, .int .i64 c, .int .i64 mode] w fun e w' => e = .returned (.tuple #[.int .i64 (scaleN a b c mode).1, .int .i64 (scaleN a b c mode).2]) ∧ w = w' := by
  cases h : goodN a b c mode
  · rw [scaleN_bad h]; exact refScale_bad a b c mode h w
  · exact refScale_ok a b c mode h w

def mulN (a b : Int) : Int × Int := if inB a && inB b then chkN (a * b) else (0, 1)
theorem mulN_bad {a b : Int} (h : (inB a && inB b) = false) : mulN a b = (0, 1) := by simp [mulN, h]
theorem mulN_ok {a b : Int} (h : (inB a && inB b) = true) : mulN a b = chkN (a * b) := by simp [mulN, h]
theorem mul_scale (a b : Int) : scaleN a b 1 0 = mulN a b := by
  have hi : inB 1 = true := by decide
  have hg : goodN a b 1 0 = (inB a && inB b) := by simp [goodN, hi]
  cases h : (inB a && inB b)
  · rw [mulN_bad h, scaleN_bad (by rw [hg, h])]
  · rw [mulN_ok h, scaleN_ok (by rw [hg, h])]
    congr 1
    have h1 : quoN a b 1 0 = a.natAbs * b.natAbs := by simp [quoN, upB0, Nat.mod_one]
    rw [h1]
    have h2 : negB a b 1 = (decide (a < 0) != decide (b < 0)) := by simp [negB]
    rw [h2]
    by_cases ha : a < 0
    · have ea : ((a.natAbs : Nat) : Int) = -a := by omega
      by_cases hb : b < 0
      · have eb : ((b.natAbs : Nat) : Int) = -b := by omega
        rw [decide_eq_true ha, decide_eq_true hb, show signN (true != true) (a.natAbs * b.natAbs) = ((a.natAbs * b.natAbs : Nat) : Int) from rfl, Int.natCast_mul, ea, eb, Int.neg_mul_neg]
      · have eb : ((b.natAbs : Nat) : Int) = b := by omega
        rw [decide_eq_true ha, decide_eq_false hb, show signN (true != false) (a.natAbs * b.natAbs) = -((a.natAbs * b.natAbs : Nat) : Int) from rfl, Int.natCast_mul, ea, eb, Int.neg_mul, Int.neg_neg]
    · have ea : ((a.natAbs : Nat) : Int) = a := by omega
      by_cases hb : b < 0
      · have eb : ((b.natAbs : Nat) : Int) = -b := by omega
        rw [decide_eq_false ha, decide_eq_true hb, show signN (false != true) (a.natAbs * b.natAbs) = -((a.natAbs * b.natAbs : Nat) : Int) from rfl, Int.natCast_mul, ea, eb, Int.mul_neg, Int.neg_neg]
      · have eb : ((b.natAbs : Nat) : Int) = b := by omega
        rw [decide_eq_false ha, decide_eq_false hb, show signN (false != false) (a.natAbs * b.natAbs) = ((a.natAbs * b.natAbs : Nat) : Int) from rfl, Int.natCast_mul, ea, eb]

theorem refMul_any (a b : Int) (w : World) : Calls Try.prog 31 #[.int .i64 a, .int .i64 b] w fun e w' => e = .returned (.tuple #[.int .i64 (mulN a b).1, .int .i64 (mulN a b).2]) ∧ w = w' := by
  rw [← mul_scale]
  go_enter Try.func31, Try.ntmps31
  go_wp2_with (go_at_call 16; refine (refScale_any a b 1 0 _).mono ?_; rintro e w8 ⟨rfl, rfl⟩)
  go_ret2
  exact ⟨rfl, rfl⟩

theorem mul_bound {x y : Nat} (hx : 0 < x) : y ≤ 1125899906842624 / x ↔ x * y ≤ 1125899906842624 := by
  rw [Nat.le_div_iff_mul_le hx, Nat.mul_comm]

set_option maxRecDepth 100000 in
set_option maxHeartbeats 800000 in
theorem numMul_any (a b : Int) (w : World) : Calls Try.prog 30 #[.int .i64 a, .int .i64 b] w fun e w' => e = .returned (.tuple #[.int .i64 (mulN a b).1, .int .i64 (mulN a b).2]) ∧ Mod NoBlock w w' := by
  cases h : (inB a && inB b)
  · rw [mulN_bad h]
    have h' := Lib.hid h
    clear h
    go_enter Try.func30, Try.ntmps30
    go_wp2_with (go_at_call 32; refine (numIn2 a b _ _).mono ?_; rintro e w9 ⟨rfl, hmc⟩; rw [h'.out])
    go_ret2
    exact ⟨rfl, hmc⟩
  · obtain ⟨a1, a2, b1, b2⟩ := in_both h
    have Hr := Lib.hid (in_both h)
    have h' := Lib.hid h
    by_cases ha : a = 0
    · subst ha
      have E := Lib.hid (show mulN 0 b = (0, 0) by rw [mulN_ok h, Int.zero_mul]; rfl)
      clear h a1 a2
      go_enter Try.func30, Try.ntmps30
      go_wp2_with (first
        | (go_at_call 32; refine (numIn2 0 b _ _).mono ?_; rintro e w9 ⟨rfl, hmc⟩; rw [h'.out]; have Hmc := Lib.hid hmc; clear hmc))
      go_ret2
      rw [E.out]
      exact ⟨rfl, Hmc.out⟩
    · obtain ⟨X, hX⟩ : ∃ X : Nat, a.natAbs = X := ⟨_, rfl⟩
      obtain ⟨Y, hY⟩ : ∃ X : Nat, b.natAbs = X := ⟨_, rfl⟩
      have eX : absN a = (X : Int) := by simp only [absN, hX]
      have eY : absN b = (Y : Int) := by simp only [absN, hY]
      have pX : 0 < X := by omega
      have hb := mul_bound (y := Y) pX
      have hab : (a * b).natAbs = X * Y := by rw [Int.natAbs_mul, hX, hY]
      have ha0 : (a != 0) = true := by rw [bne_iff_ne]; exact ha
      have eM : (1125899906842624 : Int) / X = ((1125899906842624 / X : Nat) : Int) := by simp
      have eM2 : (1125899906842624 : Int).tdiv X = ((1125899906842624 / X : Nat) : Int) := by rw [Int.tdiv_eq_ediv_of_nonneg (by omega)]; simp
      have hML : 1125899906842624 / X ≤ 1125899906842624 := Nat.div_le_self _ _
      obtain ⟨M, hM⟩ : ∃ M, 1125899906842624 / X = M := ⟨_, rfl⟩
      rw [hM] at eM eM2 hb hML
      have p1 : (0 : Int) < X := by omega
      have p2 : (M : Int) ≤ 1125899906842624 := by omega
      generalize X * Y = P at *
      by_cases hov : Y ≤ M
      · have hin := hb.1 hov
        have E := Lib.hid (show mulN a b = (a * b, 0) by rw [mulN_ok h]; exact chkN_ok (inB_true.2 (by omega)))
        have e9 : IntKind.i64.wrap (a * b) = a * b := IntWalk.i64_in _ (by omega)
        have dM : decide (M < Y) = false := decide_eq_false (by omega)
        clear h a1 a2 b1 b2 hX hY hb hab hML hM hov hin ha pX
        go_enter Try.func30, Try.ntmps30
        go_wp2_with (first
          | (go_at_call 32; refine (numIn2 a b _ _).mono ?_; rintro e w9 ⟨rfl, hmc⟩; rw [h'.out]; have Hmc := Lib.hid hmc; clear hmc)
          | (go_at_call 34; refine (numAbs_any _ (by have := Hr.out; omega) _).mono ?_; rintro e w8 ⟨rfl, rfl⟩))
        go_ret2
        rw [E.out]
        exact ⟨rfl, Hmc.out⟩
      · have hin : ¬ P ≤ 1125899906842624 := fun hh => hov (hb.2 hh)
        have E := Lib.hid (show mulN a b = (0, 2) by rw [mulN_ok h]; exact chkN_bad (inB_false.2 (by omega)))
        have dM : decide (M < Y) = true := decide_eq_true (by omega)
        clear h a1 a2 b1 b2 hX hY hb hab hML hM hov hin ha pX
        go_enter Try.func30, Try.ntmps30
        go_wp2_with (first
          | (go_at_call 32; refine (numIn2 a b _ _).mono ?_; rintro e w9 ⟨rfl, hmc⟩; rw [h'.out]; have Hmc := Lib.hid hmc; clear hmc)
          | (go_at_call 34; refine (numAbs_any _ (by have := Hr.out; omega) _).mono ?_; rintro e w8 ⟨rfl, rfl⟩))
        go_ret2
        rw [E.out]
        exact ⟨rfl, Hmc.out⟩

end Go.Proofs.Ytfihlofegginmaa
