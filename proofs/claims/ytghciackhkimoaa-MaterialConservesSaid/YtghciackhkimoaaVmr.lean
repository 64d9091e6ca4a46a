/-
  The reference's name.
-/
import Derived.Test.YtghciackhkimoaaVm
set_option linter.unusedVariables false
set_option linter.unusedSimpArgs false
namespace Go.Proofs.Ytghciackhkimoaa
open Go.RowKit

theorem byte_spans (c : Nat) : c < 45 ∨ c = 45 ∨ c = 46 ∨ c = 47 ∨ (48 ≤ c ∧ c ≤ 57) ∨ (58 ≤ c ∧ c ≤ 64) ∨ (65 ≤ c ∧ c ≤ 90) ∨ (91 ≤ c ∧ c ≤ 94) ∨ c = 95 ∨ c = 96 ∨ (97 ≤ c ∧ c ≤ 122) ∨ 123 ≤ c := by omega

set_option maxRecDepth 100000 in
set_option maxHeartbeats 3200000 in
theorem refName_any (s : ByteArray) (w : World) : Calls Try.prog 34 #[.string s] w fun e w' => e = .returned (.bool (nameL (bytesI s))) ∧ w = w' := by
  have hlen := bytesI_length s
  by_cases h0 : s.size = 0
  · have E := Lib.hid (nameL_nil (hlen.trans h0))
    have h1 : (s.size : Int) < 1 := by omega
    clear hlen h0
    go_enter Try.func34, Try.ntmps34
    go_wp2
    go_ret
    exact ⟨ret_bool E.out.symm, rfl⟩
  have hs1 : 1 ≤ s.size := by omega
  by_cases h32 : 32 < s.size
  · have E := Lib.hid (nameL_long (show 32 < (bytesI s).length by omega))
    clear hlen h0
    go_enter Try.func34, Try.ntmps34
    go_wp2
    go_ret
    exact ⟨ret_bool E.out.symm, rfl⟩
  have hp : 0 < s.size := by omega
  have E := Lib.hid (fun hf ho => nameL_ok (l := bytesI s) (by omega) (by omega) hf ho)
  have Hlen := Lib.hid hlen
  clear hlen h0
  go_enter Try.func34, Try.ntmps34
  go_wp2
  go_loop [3, 4, 5] (fun i u v => ∃ k : Nat, k ≤ s.size ∧ i = .int .i64 k ∧ (0 < k → letterB (ix (bytesI s) 0) = true) ∧ ∀ j, 1 ≤ j → j < k → okB (ix (bytesI s) j) = true) (fun i _ _ => s.size - (intOf i).toNat)
  case atStart => exact ⟨0, by omega, rfl, fun h => by omega, fun j h1 h2 => by omega⟩
  case round =>
    obtain ⟨k, hk, rfl, hf, hr⟩ := hrel
    have Hr := Lib.hid hr
    have Hf := Lib.hid hf
    clear hr hf
    by_cases hlt : k < s.size
    · have hxk := ix_bytesI hlt
      obtain ⟨c, hcc⟩ : ∃ c, (s[k]'hlt).toNat = c := ⟨_, rfl⟩
      have hc256 : c < 256 := by rw [← hcc]; exact (s[k]'hlt).toNat_lt
      rw [hcc] at hxk
      have Hxk := Lib.hid hxk
      by_cases hk0 : k = 0
      · subst hk0
        have Hno := Lib.hid (fun (h : letterB (c : Int) = false) => nameL_first (l := bytesI s) (by rw [bytesI_length]; exact hlt) (by rw [hxk]; exact h))
        have Hyes := Lib.hid (fun (h : letterB (c : Int) = true) (h0 : 0 < 0 + 1) => (show letterB (ix (bytesI s) 0) = true by rw [hxk]; exact h))
        clear hxk
        have hcs := byte_spans c
        rcases hcs with h | h | h | h | ⟨h, h'⟩ | ⟨h, h'⟩ | ⟨h, h'⟩ | ⟨h, h'⟩ | h | h | ⟨h, h'⟩ | h
        all_goals
          try have hi : (c : Int) < 45 := by omega
          try have hi : (48 : Int) ≤ c := by omega
          try have hi : (58 : Int) ≤ c := by omega
          try have hi : (65 : Int) ≤ c := by omega
          try have hi : (91 : Int) ≤ c := by omega
          try have hi : (97 : Int) ≤ c := by omega
          try have hi : (123 : Int) ≤ c := by omega
          try have hd7 : decide ((c : Int) ≤ 57) = false := decide_eq_false (by omega)
          try have hd9 : decide ((c : Int) ≤ 90) = false := decide_eq_false (by omega)
          try have hd8 : decide ((c : Int) ≤ 122) = false := decide_eq_false (by omega)
          try have hi' : (c : Int) ≤ 57 := by omega
          try have hi' : (c : Int) ≤ 64 := by omega
          try have hi' : (c : Int) ≤ 90 := by omega
          try have hi' : (c : Int) ≤ 94 := by omega
          try have hi' : (c : Int) ≤ 122 := by omega
          have hlb : letterB (c : Int) = true ∨ letterB (c : Int) = false := by cases letterB (c : Int) <;> simp
          first
            | (have Hy := Lib.hid (Hyes.out (letterB_true.2 (by omega)))
               have ht := trivial)
            | have Hn := Lib.hid (Hno.out (letterB_false.2 (by omega)))
          clear hlb
          try subst h
          go_wp2
          all_goals first
            | (go_ret
               exact ⟨ret_bool Hn.out.symm, rfl⟩)
            | exact ⟨⟨1, by omega, rfl, Hy.out, fun j h1 h2 => by omega⟩, by first | (simp [intOf]; done) | (simp [intOf]; omega)⟩
      · have Hno := Lib.hid (fun (h : okB (c : Int) = false) => nameL_other (l := bytesI s) (k := k) (by omega) (by rw [bytesI_length]; exact hlt) (by rw [hxk]; exact h))
        have Hyes := Lib.hid (fun (h : okB (c : Int) = true) => (fun (j : Nat) (h1 : 1 ≤ j) (h2 : j < k + 1) => (by
          by_cases hjk : j = k
          · subst hjk; rw [hxk]; exact h
          · exact Hr.out j h1 (by omega) : okB (ix (bytesI s) j) = true)))
        have Hf2 := Lib.hid (Hf.out (by omega))
        have hkz : ((k : Int) == 0) = false := by rw [beq_eq_false_iff_ne]; omega
        clear hxk hk0
        have hcs := byte_spans c
        rcases hcs with h | h | h | h | ⟨h, h'⟩ | ⟨h, h'⟩ | ⟨h, h'⟩ | ⟨h, h'⟩ | h | h | ⟨h, h'⟩ | h
        all_goals
          try have hi : (c : Int) < 45 := by omega
          try have hi : (48 : Int) ≤ c := by omega
          try have hi : (58 : Int) ≤ c := by omega
          try have hi : (65 : Int) ≤ c := by omega
          try have hi : (91 : Int) ≤ c := by omega
          try have hi : (97 : Int) ≤ c := by omega
          try have hi : (123 : Int) ≤ c := by omega
          try have hd7 : decide ((c : Int) ≤ 57) = false := decide_eq_false (by omega)
          try have hd9 : decide ((c : Int) ≤ 90) = false := decide_eq_false (by omega)
          try have hd8 : decide ((c : Int) ≤ 122) = false := decide_eq_false (by omega)
          try have hi' : (c : Int) ≤ 57 := by omega
          try have hi' : (c : Int) ≤ 64 := by omega
          try have hi' : (c : Int) ≤ 90 := by omega
          try have hi' : (c : Int) ≤ 94 := by omega
          try have hi' : (c : Int) ≤ 122 := by omega
          have n1 : c = 45 ∨ ((c : Int) == 45) = false := by rw [beq_eq_false_iff_ne]; omega
          have n2 : c = 95 ∨ ((c : Int) == 95) = false := by rw [beq_eq_false_iff_ne]; omega
          have n3 : c = 46 ∨ ((c : Int) == 46) = false := by rw [beq_eq_false_iff_ne]; omega
          first
            | (have Hy := Lib.hid (Hyes.out (okB_true.2 (by rw [letterB_true]; omega)))
               have ht := trivial)
            | have Hn := Lib.hid (Hno.out (okB_false.2 (by omega)))
          try rw [or_iff_right (by omega)] at n1
          try rw [or_iff_right (by omega)] at n2
          try rw [or_iff_right (by omega)] at n3
          try subst h
          go_wp2
          all_goals first
            | (go_ret
               exact ⟨ret_bool Hn.out.symm, rfl⟩)
            | exact ⟨⟨k + 1, by omega, by go_num, fun _ => Hf2.out, Hy.out⟩, by simp [intOf]; omega⟩
    · go_wp2
      go_ret
      exact ⟨ret_bool (E.out (Hf.out (by have := Hlen.out; omega) |> fun h => h) fun j h1 h2 => Hr.out j h1 (by have := Hlen.out; omega)).symm, rfl⟩

end Go.Proofs.Ytghciackhkimoaa
