/-
  num: in, checked, abs, Add, Sub; the reference's In, bounded, abs, Add, Sub.
-/
import Derived.Test.YtoneoeckilaglaaRows
import Derived.Test.YtoneoeckilaglaaNp
set_option linter.unusedVariables false
set_option linter.unusedSimpArgs false
namespace Go.Proofs.Ytoneoeckilaglaa
open Go.RowKit

set_option maxHeartbeats 400000 in
/-- num.in of any numbers. -/
theorem numIn_any (a : Option Addr) (c : Nat) (xs : List Int) (D : Nat → Prop) (w : World) (hx : Ints D w a xs) :
    Calls Try.prog 30 #[.slice a xs.length c] w fun e w' => e = .returned (.bool (xs.all inB)) ∧ w = w' := by
  obtain ⟨hl, b, off, ha, hc⟩ := hx.open
  clear hx
  have Ha := Lib.hid ha
  have Hc := Lib.hid hc
  clear ha hc
  go_enter Try.func30, Try.ntmps30
  go_wp2
  go_loopw [7] (fun i wr => ∃ k : Nat, k ≤ xs.length ∧ i = .int .i64 k ∧ wr = w ∧ (xs.take k).all inB = true) (fun i _ => xs.length - (intOf i).toNat)
  case atStart => exact ⟨0, by omega, rfl, rfl, by simp⟩
  case round =>
    obtain ⟨k, hk, rfl, rfl, ht⟩ := hrel
    have Ht := Lib.hid ht
    clear ht
    by_cases hkn : k < xs.length
    · obtain rfl := Ha.out (by intro e; subst e; simp at hkn)
      have h1 := (Hc.out k hkn)
      have q1 : (0 : Int) ≤ (k : Int) := by omega
      have q2 : (k : Int) < (xs.length : Int) := by omega
      generalize hv : ix xs k = v at h1
      have Hv := Lib.hid hv
      clear hv
      by_cases hin : inB v = true
      · obtain ⟨i1, i2⟩ := inB_true.1 hin
        have d1 : decide (v < -1125899906842624) = false := decide_eq_false (by omega)
        have d2 : decide (1125899906842624 < v) = false := decide_eq_false (by omega)
        have Hin := Lib.hid hin
        clear hin i1 i2
        go_wp2
        refine ⟨⟨k + 1, by omega, by go_num, by trivial, ?_⟩, by simp [intOf]; omega⟩
        rw [take_ix hkn, List.all_append, Ht.out, Hv.out]
        simp [Hin.out]
      · have hin' : inB v = false := by simpa using hin
        have hall : xs.all inB = false := by
          rw [List.all_eq_false]
          exact ⟨xs[k], List.getElem_mem hkn, by rw [← ix_eq hkn, Hv.out]; simpa using hin'⟩
        have Hall := Lib.hid hall
        clear hall hin
        by_cases hlo : v < -1125899906842624
        · clear hin'
          go_wp2
          go_ret
          exact ⟨ret_bool Hall.out.symm, rfl⟩
        · have hhi : 1125899906842624 < v := by
            rcases inB_false.1 hin' with h | h
            · omega
            · exact h
          clear hin'
          go_wp2
          go_ret
          exact ⟨ret_bool Hall.out.symm, rfl⟩
    · go_wp2
      go_ret
      refine ⟨ret_bool ?_, rfl⟩
      have := Ht.out
      rw [List.take_of_length_le (by omega)] at this
      exact this.symm

theorem refIn_any (a : Int) (w : World) : Calls Try.prog 35 #[.int .i64 a] w fun e w' => e = .returned (.bool (inB a)) ∧ w = w' := by
  by_cases h : -1125899906842624 ≤ a
  · by_cases h2 : a ≤ 1125899906842624
    · have hi := Lib.hid (inB_true.2 ⟨h, h2⟩)
      go_enter Try.func35, Try.ntmps35
      go_wp2
      go_ret
      exact ⟨ret_bool hi.out.symm, rfl⟩
    · have hi := Lib.hid (inB_false.2 (.inr (by omega : 1125899906842624 < a)))
      go_enter Try.func35, Try.ntmps35
      go_wp2
      go_ret
      exact ⟨ret_bool hi.out.symm, rfl⟩
  · have hi := Lib.hid (inB_false.2 (.inl (by omega : a < -1125899906842624)))
    go_enter Try.func35, Try.ntmps35
    go_wp2
    go_ret
    exact ⟨ret_bool hi.out.symm, rfl⟩

theorem bounded_any (a : Int) (w : World) : Calls Try.prog 38 #[.int .i64 a] w fun e w' => e = .returned (.tuple #[.int .i64 (chkN a).1, .int .i64 (chkN a).2]) ∧ w = w' := by
  cases h : inB a
  all_goals
    have h' := Lib.hid h
    first | rw [chkN_bad h] | rw [chkN_ok h]
    clear h
    go_enter Try.func38, Try.ntmps38
    go_wp2_with (go_at_call 35; refine (refIn_any a _).mono ?_; rintro e w9 ⟨rfl, rfl⟩; rw [h'.out])
    go_ret2
    exact ⟨rfl, rfl⟩

theorem numIn1 (a : Int) (t : TypeId) (w : World) : Calls Try.prog 30 #[.slice (some ⟨w.heap.size, 0, Option.none⟩) 1 1] (w.alloc (.cells #[.int .i64 a] t)) fun e w' => e = .returned (.bool (inB a)) ∧ Mod NoBlock w w' :=
  (numIn_any _ 1 [a] (fun _ => True) _ (Ints.one _ _ _ _ trivial)).mono fun e w' ⟨h1, h2⟩ => ⟨by rw [h1]; simp, by rw [← h2]; exact (Mod.refl _ _).alloc _⟩
theorem numIn2 (a b : Int) (t : TypeId) (w : World) : Calls Try.prog 30 #[.slice (some ⟨w.heap.size, 0, Option.none⟩) 2 2] (w.alloc (.cells #[.int .i64 a, .int .i64 b] t)) fun e w' => e = .returned (.bool (inB a && inB b)) ∧ Mod NoBlock w w' :=
  (numIn_any _ 2 [a, b] (fun _ => True) _ (Ints.pair _ _ _ _ _ trivial)).mono fun e w' ⟨h1, h2⟩ => ⟨by rw [h1]; simp, by rw [← h2]; exact (Mod.refl _ _).alloc _⟩
theorem numIn3 (a b c : Int) (t : TypeId) (w : World) : Calls Try.prog 30 #[.slice (some ⟨w.heap.size, 0, Option.none⟩) 3 3] (w.alloc (.cells #[.int .i64 a, .int .i64 b, .int .i64 c] t)) fun e w' => e = .returned (.bool (inB a && (inB b && inB c))) ∧ Mod NoBlock w w' :=
  (numIn_any _ 3 [a, b, c] (fun _ => True) _ (Ints.three _ _ _ _ _ _ trivial)).mono fun e w' ⟨h1, h2⟩ => ⟨by rw [h1]; simp, by rw [← h2]; exact (Mod.refl _ _).alloc _⟩

theorem checked_any (a : Int) (w : World) : Calls Try.prog 34 #[.int .i64 a] w fun e w' => e = .returned (.tuple #[.int .i64 (chkN a).1, .int .i64 (chkN a).2]) ∧ Mod NoBlock w w' := by
  cases h : inB a
  all_goals
    have h' := Lib.hid h
    first | rw [chkN_bad h] | rw [chkN_ok h]
    clear h
    go_enter Try.func34, Try.ntmps34
    go_wp2_with (go_at_call 30; refine (numIn1 a _ _).mono ?_; rintro e w9 ⟨rfl, hmc⟩; rw [h'.out])
    go_ret2
    exact ⟨rfl, hmc⟩

theorem addN_bad {a b : Int} (h : (inB a && inB b) = false) : addN a b = (0, 1) := by simp [addN, h]
theorem addN_ok {a b : Int} (h : (inB a && inB b) = true) : addN a b = chkN (a + b) := by simp [addN, h]
theorem subN_bad {a b : Int} (h : (inB a && inB b) = false) : subN a b = (0, 1) := by simp [subN, h]
theorem subN_ok {a b : Int} (h : (inB a && inB b) = true) : subN a b = chkN (a - b) := by simp [subN, h]
theorem in_both {a b : Int} (h : (inB a && inB b) = true) : -1125899906842624 ≤ a ∧ a ≤ 1125899906842624 ∧ -1125899906842624 ≤ b ∧ b ≤ 1125899906842624 := by
  rw [Bool.and_eq_true] at h
  have h1 := inB_true.1 h.1
  have h2 := inB_true.1 h.2
  omega

end Go.Proofs.Ytoneoeckilaglaa
