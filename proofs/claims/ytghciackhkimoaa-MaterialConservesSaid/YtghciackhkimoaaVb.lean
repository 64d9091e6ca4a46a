/-
  Walks over material.Valid, the reference's Valid, both.
-/
import Derived.Test.YtghciackhkimoaaWa
set_option linter.unusedVariables false
set_option linter.unusedSimpArgs false
namespace Go.Proofs.Ytghciackhkimoaa
open Go.RowKit

theorem decide_beq (a b : Int) : decide (a = b) = (a == b) := rfl

set_option maxHeartbeats 400000 in
theorem valid_any (a : Option Addr) (c : Nat) (xs : List Int) (n : Int) (D : Nat → Prop) (w : World) (hx : Ints D w a xs) :
    Calls Try.prog 24 #[.slice a xs.length c, .int .i64 n] w fun e w' => e = .returned (.bool (validL xs n)) ∧ Mod NoBlock w w' := by
  have H := Lib.hid hx
  clear hx
  by_cases hn : (xs.length : Int) = n
  · have hd : decide ((xs.length : Int) = n) = true := by simpa using hn
    have hn' := Lib.hid hn
    have hb : ((xs.length : Int) == n) = true := by simpa using hn
    clear hn
    have e1 := Lib.hid (checkL_one xs)
    have e2 := Lib.hid (show validL xs n = (decide ((xs.length : Int) = n) && decide (faultL xs = 0)) from rfl)
    go_enter Try.func24, Try.ntmps24
    go_wp2_with (go_at_call 39; refine (check_any _ _ [xs] _ _ (Mixes.one H.out c _)).mono ?_; rintro e w' ⟨rfl, rfl⟩; rw [e1.out])
    go_ret
    exact ⟨ret_bool (by rw [e2.out, hd]; rfl), (Mod.refl _ _).alloc _⟩
  · have hd : decide ((xs.length : Int) = n) = false := by simpa using hn
    have hb : ((xs.length : Int) == n) = false := by simpa using hn
    have e2 := Lib.hid (show validL xs n = (decide ((xs.length : Int) = n) && decide (faultL xs = 0)) from rfl)
    go_enter Try.func24, Try.ntmps24
    go_wp2
    go_ret
    exact ⟨ret_bool (by rw [e2.out, hd]; rfl), Mod.refl _ _⟩

set_option maxHeartbeats 400000 in
theorem rvalid_any (a : Option Addr) (c : Nat) (xs : List Int) (n : Int) (D : Nat → Prop) (w : World) (hx : Ints D w a xs) :
    Calls Try.prog 25 #[.slice a xs.length c, .int .i64 n] w fun e w' => e = .returned (.bool (validL xs n)) ∧ w = w' := by
  have H := Lib.hid hx
  clear hx
  have e2 := Lib.hid (show validL xs n = (decide ((xs.length : Int) = n) && decide (faultL xs = 0)) from rfl)
  by_cases hf : faultL xs = 0
  · have hf' := Lib.hid hf
    clear hf
    go_enter Try.func25, Try.ntmps25
    go_wp2_with (go_at_call 40; refine (fault_any _ _ _ _ _ H.out).mono ?_; rintro e w' ⟨rfl, rfl⟩; rw [hf'.out])
    go_ret
    exact ⟨ret_bool (by rw [e2.out, hf'.out]; simp; rfl), rfl⟩
  · have hf' := Lib.hid hf
    have hb : (faultL xs == 0) = false := by simpa using hf
    clear hf
    go_enter Try.func25, Try.ntmps25
    go_wp2_with (go_at_call 40; refine (fault_any _ _ _ _ _ H.out).mono ?_; rintro e w' ⟨rfl, rfl⟩)
    go_ret
    exact ⟨ret_bool (by rw [e2.out]; simp [hf'.out]), rfl⟩

set_option maxHeartbeats 400000 in
theorem both_any (a : Option Addr) (c : Nat) (xs : List Int) (a2 : Option Addr) (c2 : Nat) (ys : List Int) (D D2 : Nat → Prop) (w : World) (hx : Ints D w a xs) (hy : Ints D2 w a2 ys) :
    Calls Try.prog 37 #[.slice a xs.length c, .slice a2 ys.length c2] w fun e w' => e = .returned (.int .i64 (bothL xs ys)) ∧ w = w' := by
  have H := Lib.hid hx
  have H2 := Lib.hid hy
  clear hx hy
  have e2 := Lib.hid (show bothL xs ys = if faultL xs ≠ 0 then faultL xs else if faultL ys ≠ 0 then faultL ys else if xs.length ≠ ys.length then 18 else 0 from rfl)
  by_cases hf : faultL xs = 0
  · have hf' := Lib.hid hf
    clear hf
    by_cases hg : faultL ys = 0
    · have hg' := Lib.hid hg
      clear hg
      go_enter Try.func37, Try.ntmps37
      go_wp2_with (first
        | (go_at_call_of 40 (Value.slice a xs.length c); refine (fault_any _ _ _ _ _ H.out).mono ?_; rintro e w' ⟨rfl, rfl⟩; rw [hf'.out])
        | (go_at_call_of 40 (Value.slice a2 ys.length c2); refine (fault_any _ _ _ _ _ H2.out).mono ?_; rintro e w' ⟨rfl, rfl⟩; rw [hg'.out]))
      all_goals go_ret
      all_goals rename_i hq
      all_goals refine ⟨ret_int ?_, rfl⟩
      all_goals rw [e2.out, hf'.out, hg'.out, if_neg (by simp), if_neg (by simp)]
      · exact (if_pos (by have := hq; simp at this; omega)).symm
      · exact (if_neg (by have := hq; simp at this; omega)).symm
    · have hg' := Lib.hid hg
      have hb : (faultL ys != 0) = true := by simpa using hg
      clear hg
      go_enter Try.func37, Try.ntmps37
      go_wp2_with (first
        | (go_at_call_of 40 (Value.slice a xs.length c); refine (fault_any _ _ _ _ _ H.out).mono ?_; rintro e w' ⟨rfl, rfl⟩; rw [hf'.out])
        | (go_at_call_of 40 (Value.slice a2 ys.length c2); refine (fault_any _ _ _ _ _ H2.out).mono ?_; rintro e w' ⟨rfl, rfl⟩))
      go_ret
      exact ⟨ret_int (by rw [e2.out, hf'.out, if_neg (by simp), if_pos hg'.out]), rfl⟩
  · have hf' := Lib.hid hf
    have hb : (faultL xs != 0) = true := by simpa using hf
    clear hf
    go_enter Try.func37, Try.ntmps37
    go_wp2_with (go_at_call 40; refine (fault_any _ _ _ _ _ H.out).mono ?_; rintro e w' ⟨rfl, rfl⟩)
    go_ret
    exact ⟨ret_int (by rw [e2.out, if_pos hf'.out]), rfl⟩

end Go.Proofs.Ytghciackhkimoaa
