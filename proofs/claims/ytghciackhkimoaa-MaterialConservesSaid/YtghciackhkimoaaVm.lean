/-
  ident.letter, ident.Valid; the reference's name.
-/
import Derived.Test.YtghciackhkimoaaRows
import Derived.Test.YtghciackhkimoaaStr
set_option linter.unusedVariables false
set_option linter.unusedSimpArgs false
namespace Go.Proofs.Ytghciackhkimoaa
open Go.RowKit

theorem letter_any (c : Nat) (hc : c < 256) (w : World) : Calls Try.prog 42 #[.int .u8 c] w fun e w' => e = .returned (.bool (letterB c)) ∧ w = w' := by
  have hs : (c : Int) < 65 ∨ (65 ≤ (c : Int) ∧ (c : Int) ≤ 90) ∨ (90 < (c : Int) ∧ (c : Int) < 97) ∨ (97 ≤ (c : Int) ∧ (c : Int) ≤ 122) ∨ 122 < (c : Int) := by omega
  rcases hs with h | ⟨h1, h2⟩ | ⟨h1, h2⟩ | ⟨h1, h2⟩ | h
  · have E := Lib.hid (letterB_false.2 (show ¬ ((97 ≤ (c : Int) ∧ (c : Int) ≤ 122) ∨ (65 ≤ (c : Int) ∧ (c : Int) ≤ 90)) by omega))
    go_enter Try.func42, Try.ntmps42
    go_wp2
    go_ret
    first | exact ⟨ret_bool E.out.symm, rfl⟩ | exact ⟨ret_bool (by rw [E.out]; first | (simp; done) | (simp; omega)), rfl⟩
  · have E := Lib.hid (letterB_true.2 (.inr ⟨h1, h2⟩))
    go_enter Try.func42, Try.ntmps42
    go_wp2
    go_ret
    first | exact ⟨ret_bool E.out.symm, rfl⟩ | exact ⟨ret_bool (by rw [E.out]; first | (simp; done) | (simp; omega)), rfl⟩
  · have E := Lib.hid (letterB_false.2 (show ¬ ((97 ≤ (c : Int) ∧ (c : Int) ≤ 122) ∨ (65 ≤ (c : Int) ∧ (c : Int) ≤ 90)) by omega))
    go_enter Try.func42, Try.ntmps42
    go_wp2
    go_ret
    first | exact ⟨ret_bool E.out.symm, rfl⟩ | exact ⟨ret_bool (by rw [E.out]; first | (simp; done) | (simp; omega)), rfl⟩
  · have E := Lib.hid (letterB_true.2 (.inl ⟨h1, h2⟩))
    go_enter Try.func42, Try.ntmps42
    go_wp2
    go_ret
    first | exact ⟨ret_bool E.out.symm, rfl⟩ | exact ⟨ret_bool (by rw [E.out]; first | (simp; done) | (simp; omega)), rfl⟩
  · have E := Lib.hid (letterB_false.2 (show ¬ ((97 ≤ (c : Int) ∧ (c : Int) ≤ 122) ∨ (65 ≤ (c : Int) ∧ (c : Int) ≤ 90)) by omega))
    go_enter Try.func42, Try.ntmps42
    go_wp2
    go_ret
    first | exact ⟨ret_bool E.out.symm, rfl⟩ | exact ⟨ret_bool (by rw [E.out]; first | (simp; done) | (simp; omega)), rfl⟩

set_option maxRecDepth 100000 in
set_option maxHeartbeats 1600000 in
theorem identValid_any (s : ByteArray) (w : World) : Calls Try.prog 31 #[.string s] w fun e w' => e = .returned (.bool (nameL (bytesI s))) ∧ w = w' := by
  have hlen := bytesI_length s
  by_cases h0 : s.size = 0
  · have E := Lib.hid (nameL_nil (hlen.trans h0))
    have h1 : (s.size : Int) < 1 := by omega
    clear hlen h0
    go_enter Try.func31, Try.ntmps31
    go_wp2
    go_ret
    exact ⟨ret_bool E.out.symm, rfl⟩
  have hs1 : 1 ≤ s.size := by omega
  by_cases h32 : 32 < s.size
  · have E := Lib.hid (nameL_long (show 32 < (bytesI s).length by omega))
    clear hlen h0
    go_enter Try.func31, Try.ntmps31
    go_wp2
    go_ret
    exact ⟨ret_bool E.out.symm, rfl⟩
  have hp : 0 < s.size := by omega
  have hx0 := ix_bytesI hp
  have hb0 := (s[0]'hp).toNat_lt
  cases hL : letterB ((s[0]'hp).toNat : Int)
  · have E := Lib.hid (nameL_first (l := bytesI s) (by omega) (by rw [hx0, hL]))
    have HL := Lib.hid hL
    clear hx0 hL hlen h0
    go_enter Try.func31, Try.ntmps31
    go_wp2_with (go_at_call 42; refine (letter_any _ (by omega) _).mono ?_; rintro e w9 ⟨rfl, rfl⟩; rw [HL.out])
    go_ret
    exact ⟨ret_bool E.out.symm, rfl⟩
  · have E := Lib.hid (fun ho => nameL_ok (l := bytesI s) (by omega) (by omega) (by rw [hx0, hL]) ho)
    have HL := Lib.hid hL
    have Hlen := Lib.hid hlen
    clear hx0 hL hlen h0
    go_enter Try.func31, Try.ntmps31
    go_wp2_with (go_at_call 42; refine (letter_any _ (by omega) _).mono ?_; rintro e w9 ⟨rfl, rfl⟩; rw [HL.out])
    go_loop [3] (fun i => ∃ k : Nat, 1 ≤ k ∧ k ≤ s.size ∧ i = .int .i64 k ∧ ∀ j, 1 ≤ j → j < k → okB (ix (bytesI s) j) = true) (fun i => s.size - (intOf i).toNat)
    case atStart => exact ⟨1, by omega, hs1, rfl, fun j h1 h2 => by omega⟩
    case round =>
      obtain ⟨k, hk1, hk, rfl, hr⟩ := hrel
      have Hr := Lib.hid hr
      clear hr
      by_cases hlt : k < s.size
      · have hxk := ix_bytesI hlt
        obtain ⟨c, hcc⟩ : ∃ c, (s[k]'hlt).toNat = c := ⟨_, rfl⟩
        have hc256 : c < 256 := by rw [← hcc]; exact (s[k]'hlt).toNat_lt
        rw [hcc] at hxk
        have Hxk := Lib.hid hxk
        have H256 := Lib.hid hc256
        have Hno := Lib.hid (fun (h : okB (c : Int) = false) => nameL_other (l := bytesI s) hk1 (by rw [bytesI_length]; exact hlt) (by rw [hxk]; exact h))
        have Hyes := Lib.hid (fun (h : okB (c : Int) = true) => (fun (j : Nat) (h1 : 1 ≤ j) (h2 : j < k + 1) => (by
          by_cases hjk : j = k
          · subst hjk; rw [hxk]; exact h
          · exact Hr.out j h1 (by omega) : okB (ix (bytesI s) j) = true)))
        clear hxk
        cases hLk : letterB (c : Int)
        · have HLk := Lib.hid hLk
          have hnl := Lib.hid (letterB_false.1 hLk)
          clear hLk
          have hcs : c = 45 ∨ c = 46 ∨ c = 95 ∨ (48 ≤ c ∧ c ≤ 57) ∨ (c ≠ 45 ∧ c ≠ 46 ∧ c ≠ 95 ∧ (c < 48 ∨ 57 < c)) := by omega
          rcases hcs with rfl | rfl | rfl | ⟨k1, k2⟩ | ⟨k1, k2, k3, k4⟩
          · go_wp2_with (go_at_call 42; refine (letter_any _ H256.out _).mono ?_; rintro e w9 ⟨rfl, rfl⟩; rw [HLk.out])
            exact ⟨⟨k + 1, by omega, by omega, by go_num, Hyes.out (okB_true.2 (by omega))⟩, by simp [intOf]; omega⟩
          · go_wp2_with (go_at_call 42; refine (letter_any _ H256.out _).mono ?_; rintro e w9 ⟨rfl, rfl⟩; rw [HLk.out])
            exact ⟨⟨k + 1, by omega, by omega, by go_num, Hyes.out (okB_true.2 (by omega))⟩, by simp [intOf]; omega⟩
          · go_wp2_with (go_at_call 42; refine (letter_any _ H256.out _).mono ?_; rintro e w9 ⟨rfl, rfl⟩; rw [HLk.out])
            exact ⟨⟨k + 1, by omega, by omega, by go_num, Hyes.out (okB_true.2 (by omega))⟩, by simp [intOf]; omega⟩
          · have k1i : (48 : Int) ≤ c := by omega
            have k2i : (c : Int) ≤ 57 := by omega
            have Hk := Lib.hid (Hyes.out (okB_true.2 (by omega)))
            have d1 : decide ((c : Int) < 48) = false := decide_eq_false (by omega)
            have d2 : decide (57 < (c : Int)) = false := decide_eq_false (by omega)
            clear k1 k2
            go_wp2_with (go_at_call 42; refine (letter_any _ H256.out _).mono ?_; rintro e w9 ⟨rfl, rfl⟩; rw [HLk.out])
            exact ⟨⟨k + 1, by omega, by omega, by go_num, Hk.out⟩, by simp [intOf]; omega⟩
          · have Hk := Lib.hid (Hno.out (okB_false.2 (by have := hnl.out; omega)))
            have n1 : ((c : Int) != 45) = true := by rw [bne_iff_ne]; omega
            have n2 : ((c : Int) != 46) = true := by rw [bne_iff_ne]; omega
            have n3 : ((c : Int) != 95) = true := by rw [bne_iff_ne]; omega
            rcases k4 with k4 | k4
            · have d1 : decide ((c : Int) < 48) = true := decide_eq_true (by omega)
              clear k1 k2 k3 k4
              go_wp2_with (go_at_call 42; refine (letter_any _ H256.out _).mono ?_; rintro e w9 ⟨rfl, rfl⟩; rw [HLk.out])
              go_ret
              exact ⟨ret_bool Hk.out.symm, rfl⟩
            · have d1 : decide ((c : Int) < 48) = false := decide_eq_false (by omega)
              have d2 : decide (57 < (c : Int)) = true := decide_eq_true (by omega)
              clear k1 k2 k3 k4
              go_wp2_with (go_at_call 42; refine (letter_any _ H256.out _).mono ?_; rintro e w9 ⟨rfl, rfl⟩; rw [HLk.out])
              go_ret
              exact ⟨ret_bool Hk.out.symm, rfl⟩
        · have HLk := Lib.hid hLk
          have Hk := Lib.hid (Hyes.out (okB_true.2 (.inl hLk)))
          clear hLk
          go_wp2_with (go_at_call 42; refine (letter_any _ H256.out _).mono ?_; rintro e w9 ⟨rfl, rfl⟩; rw [HLk.out])
          exact ⟨⟨k + 1, by omega, by omega, by go_num, Hk.out⟩, by simp [intOf]; omega⟩
      · go_wp2
        go_ret
        exact ⟨ret_bool (E.out fun j h1 h2 => Hr.out j h1 (by have := Hlen.out; omega)).symm, rfl⟩

end Go.Proofs.Ytghciackhkimoaa
