/-
  camera: rows of rates; camera.row, the reference's Check of rates.
-/
import Derived.Test.YtnpdkpbecmpdbaaOwn
import Derived.Test.YtnpdkpbecmpdbaaRows
set_option linter.unusedVariables false
set_option linter.unusedSimpArgs false
namespace Go.Proofs.Ytnpdkpbecmpdbaa
open Go.RowKit

def badR (n : Int) : Bool := decide (n < 0) || decide (1000 < n)
/-- The error of a row of rates. -/
def rowE (l : List Int) : Int := if l.length < 1 ∨ 4 < l.length then 1 else if l.any badR then 1 else if l.sum = 1000 then 0 else 17
theorem rowE_size {l : List Int} (h : l.length < 1 ∨ 4 < l.length) : rowE l = 1 := if_pos h
theorem rowE_bad {l : List Int} (h : ¬ (l.length < 1 ∨ 4 < l.length)) (hb : l.any badR = true) : rowE l = 1 := by unfold rowE; rw [if_neg h, if_pos hb]
theorem rowE_sum {l : List Int} (h : ¬ (l.length < 1 ∨ 4 < l.length)) (hb : l.any badR = false) : rowE l = if l.sum = 1000 then 0 else 17 := by unfold rowE; rw [if_neg h, if_neg (by rw [hb]; decide)]
theorem row_ok {l : List Int} (h : rowE l = 0) : 1 ≤ l.length ∧ l.length ≤ 4 ∧ (∀ k, k < l.length → 0 ≤ ix l k ∧ ix l k ≤ 1000) ∧ l.sum = 1000 := by
  unfold rowE at h
  split at h
  · exact absurd h (by decide)
  · split at h
    · exact absurd h (by decide)
    · next h1 h2 =>
      split at h
      · next h3 =>
        refine ⟨by omega, by omega, fun k hk => ?_, h3⟩
        have h2 : l.any badR = false := by simpa using h2
        rw [List.any_eq_false] at h2
        have := h2 (ix l k) (by rw [ix_eq hk]; exact List.getElem_mem hk)
        simp [badR] at this
        omega
      · exact absurd h (by decide)

set_option maxRecDepth 100000 in
set_option maxHeartbeats 800000 in
theorem row_any (a : Option Addr) (c : Nat) (l : List Int) (D : Nat → Prop) (w : World) (hx : Ints D w a l) :
    Calls Try.prog 43 #[.slice a l.length c] w fun e w' => e = .returned (.int .i64 (rowE l)) ∧ w = w' := by
  have hlx := hx.1
  unfold maxLen at hlx
  by_cases h1 : l.length < 1
  · rw [rowE_size (.inl h1)]
    go_enter Try.func43, Try.ntmps43
    go_wp2
    go_ret
    exact ⟨rfl, rfl⟩
  by_cases h2 : 4 < l.length
  · rw [rowE_size (.inr h2)]
    go_enter Try.func43, Try.ntmps43
    go_wp2
    go_ret
    exact ⟨rfl, rfl⟩
  have h0 : ¬ (l.length < 1 ∨ 4 < l.length) := by omega
  have Hb := Lib.hid (fun hb => rowE_bad (l := l) h0 hb)
  have Hs := Lib.hid (fun hb => rowE_sum (l := l) h0 hb)
  obtain ⟨_, b, off, ha, hcl⟩ := hx.open
  have Ha := Lib.hid ha
  have Hcl := Lib.hid hcl
  clear hx h0 ha hcl
  go_enter Try.func43, Try.ntmps43
  go_wp2
  go_loop [3, 5, 16] (fun s v i => ∃ (k : Nat) (S : Int), k ≤ l.length ∧ i = .int .i64 k ∧ s = .int .i64 S ∧ S = (l.take k).sum ∧ (l.drop k).any badR = l.any badR ∧ 0 ≤ S ∧ S ≤ 1000 * k) (fun _ _ i => l.length - (intOf i).toNat)
  case atStart => exact ⟨0, 0, by omega, rfl, rfl, by simp, by simp, by omega, by omega⟩
  case round =>
    obtain ⟨k, S, hk, rfl, rfl, hS, hr, s1, s2⟩ := hrel
    have HS := Lib.hid hS
    have Hr := Lib.hid hr
    clear hS hr
    by_cases hlt : k < l.length
    · have h1 := Hcl.out k hlt
      obtain rfl := Ha.out (by intro h; simp [h] at hlt)
      have e := Lib.hid (show (l.drop k).any badR = (badR (ix l k) || (l.drop (k + 1)).any badR) by rw [drop_ix hlt]; rfl)
      have HT := Lib.hid (show (l.take (k + 1)).sum = S + ix l k by rw [take_ix hlt, List.sum_append, ← HS.out]; simp)
      generalize ix l k = v at *
      by_cases hv : v < 0 ∨ 1000 < v
      · have Hany := Lib.hid (show l.any badR = true by rw [← Hr.out, e.out]; simp [badR]; omega)
        rcases (by omega : v < 0 ∨ (¬ v < 0 ∧ 1000 < v)) with q | ⟨q, q2⟩
        all_goals
          go_wp2
          go_ret
          rw [Hb.out Hany.out]
          exact ⟨rfl, rfl⟩
      · have Hany := Lib.hid (show (l.drop (k + 1)).any badR = l.any badR by rw [← Hr.out, e.out]; simp [badR]; omega)
        have q1 : ¬ v < 0 := by omega
        have q2 : ¬ 1000 < v := by omega
        go_wp2
        exact ⟨⟨k + 1, S + v, by omega, by go_num, rfl, HT.out.symm, Hany.out, by omega, by omega⟩, by simp [intOf]; omega⟩
    · have Hany := Lib.hid (show l.any badR = false by rw [← Hr.out, List.drop_eq_nil_of_le (by omega)]; rfl)
      have hsum := HS.out
      rw [List.take_of_length_le (by omega)] at hsum
      have Hsum := Lib.hid hsum
      clear hsum
      by_cases hq : S = 1000
      · have E := Lib.hid ((Hs.out Hany.out).trans (if_pos (by rw [← Hsum.out]; exact hq)))
        go_wp2
        go_ret
        rw [E.out]
        exact ⟨rfl, rfl⟩
      · have E := Lib.hid ((Hs.out Hany.out).trans (if_neg (by rw [← Hsum.out]; exact hq)))
        go_wp2
        go_ret
        rw [E.out]
        exact ⟨rfl, rfl⟩

set_option maxRecDepth 100000 in
set_option maxHeartbeats 800000 in
theorem refRow_any (a : Option Addr) (c : Nat) (l : List Int) (D : Nat → Prop) (w : World) (hx : Ints D w a l) :
    Calls Try.prog 24 #[.slice a l.length c] w fun e w' => e = .returned (.int .i64 (rowE l)) ∧ w = w' := by
  have hlx := hx.1
  unfold maxLen at hlx
  by_cases h1 : l.length < 1
  · rw [rowE_size (.inl h1)]
    go_enter Try.func24, Try.ntmps24
    go_wp2
    go_ret
    exact ⟨rfl, rfl⟩
  by_cases h2 : 4 < l.length
  · rw [rowE_size (.inr h2)]
    go_enter Try.func24, Try.ntmps24
    go_wp2
    go_ret
    exact ⟨rfl, rfl⟩
  have h0 : ¬ (l.length < 1 ∨ 4 < l.length) := by omega
  have Hb := Lib.hid (fun hb => rowE_bad (l := l) h0 hb)
  have Hs := Lib.hid (fun hb => rowE_sum (l := l) h0 hb)
  obtain ⟨_, b, off, ha, hcl⟩ := hx.open
  have Ha := Lib.hid ha
  have Hcl := Lib.hid hcl
  clear hx h0 ha hcl
  go_enter Try.func24, Try.ntmps24
  go_wp2
  go_loop [3, 4] (fun s i => ∃ (k : Nat) (S : Int), k ≤ l.length ∧ i = .int .i64 k ∧ s = .int .i64 S ∧ S = (l.take k).sum ∧ (l.drop k).any badR = l.any badR ∧ 0 ≤ S ∧ S ≤ 1000 * k) (fun _ i => l.length - (intOf i).toNat)
  case atStart => exact ⟨0, 0, by omega, rfl, rfl, by simp, by simp, by omega, by omega⟩
  case round =>
    obtain ⟨k, S, hk, rfl, rfl, hS, hr, s1, s2⟩ := hrel
    have HS := Lib.hid hS
    have Hr := Lib.hid hr
    clear hS hr
    by_cases hlt : k < l.length
    · have h1 := Hcl.out k hlt
      obtain rfl := Ha.out (by intro h; simp [h] at hlt)
      have e := Lib.hid (show (l.drop k).any badR = (badR (ix l k) || (l.drop (k + 1)).any badR) by rw [drop_ix hlt]; rfl)
      have HT := Lib.hid (show (l.take (k + 1)).sum = S + ix l k by rw [take_ix hlt, List.sum_append, ← HS.out]; simp)
      generalize ix l k = v at *
      by_cases hv : v < 0 ∨ 1000 < v
      · have Hany := Lib.hid (show l.any badR = true by rw [← Hr.out, e.out]; simp [badR]; omega)
        rcases (by omega : v < 0 ∨ (¬ v < 0 ∧ 1000 < v)) with q | ⟨q, q2⟩
        all_goals
          go_wp2
          go_ret
          rw [Hb.out Hany.out]
          exact ⟨rfl, rfl⟩
      · have Hany := Lib.hid (show (l.drop (k + 1)).any badR = l.any badR by rw [← Hr.out, e.out]; simp [badR]; omega)
        have q1 : ¬ v < 0 := by omega
        have q2 : ¬ 1000 < v := by omega
        go_wp2
        exact ⟨⟨k + 1, S + v, by omega, by go_num, rfl, HT.out.symm, Hany.out, by omega, by omega⟩, by simp [intOf]; omega⟩
    · have Hany := Lib.hid (show l.any badR = false by rw [← Hr.out, List.drop_eq_nil_of_le (by omega)]; rfl)
      have hsum := HS.out
      rw [List.take_of_length_le (by omega)] at hsum
      have Hsum := Lib.hid hsum
      clear hsum
      by_cases hq : S = 1000
      · have E := Lib.hid ((Hs.out Hany.out).trans (if_pos (by rw [← Hsum.out]; exact hq)))
        go_wp2
        go_ret
        rw [E.out]
        exact ⟨rfl, rfl⟩
      · have E := Lib.hid ((Hs.out Hany.out).trans (if_neg (by rw [← Hsum.out]; exact hq)))
        go_wp2
        go_ret
        rw [E.out]
        exact ⟨rfl, rfl⟩

end Go.Proofs.Ytnpdkpbecmpdbaa
