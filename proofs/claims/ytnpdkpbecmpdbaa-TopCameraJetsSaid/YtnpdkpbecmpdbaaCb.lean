/-
  camera: slices.ContainsFunc over the rows of rates, with the closure of camera.Check.
-/
import Derived.Test.YtnpdkpbecmpdbaaCa
set_option linter.unusedVariables false
set_option linter.unusedSimpArgs false
namespace Go.Proofs.Ytnpdkpbecmpdbaa
open Go.RowKit

/-- The first row, counted from k on, whose length is not m; -1 if there is none. -/
def oddAt (m : Nat) : List (List Int) → Int → Int
  | [], _ => -1
  | x :: r, k => if x.length = m then oddAt m r (k + 1) else k
def oddB (m : Nat) (l : List (List Int)) : Bool := l.any fun x => decide (¬ x.length = m)
theorem oddAt_bound (m : Nat) (l : List (List Int)) (k : Int) (hk : 0 ≤ k) : (oddAt m l k = -1 ∧ oddB m l = false) ∨ (0 ≤ oddAt m l k ∧ oddB m l = true) := by
  induction l generalizing k with
  | nil => exact .inl ⟨rfl, rfl⟩
  | cons x r ih =>
    unfold oddAt
    by_cases h : x.length = m
    · rw [if_pos h]
      rcases ih (k + 1) (by omega) with ⟨h1, h2⟩ | ⟨h1, h2⟩
      · exact .inl ⟨h1, by simp only [oddB, List.any_cons] at h2 ⊢; rw [h2]; simp [h]⟩
      · exact .inr ⟨h1, by simp only [oddB, List.any_cons] at h2 ⊢; rw [h2]; simp⟩
    · rw [if_neg h]
      exact .inr ⟨hk, by simp [oddB, h]⟩

set_option maxHeartbeats 400000 in
theorem odd_any (a : Option Addr) (c n : Nat) (rows : List (List Int)) (B b off cap : Nat) (D : Nat → Prop) (w : World) (hn : n ≤ maxLen) (h0 : 0 < rows.length) (hx : Mixes D w (some ⟨b, off, none⟩) rows)
    (hB : w.cell? ⟨B, 0, none⟩ = some (.slice (some ⟨b, off, none⟩) rows.length cap)) :
    Calls Try.prog 45 #[.slice a n c, .pointer (some ⟨B, 0, none⟩)] w fun e w' => e = .returned (.bool (decide (¬ n = (rx rows 0).length))) ∧ w = w' := by
  obtain ⟨b', off', a', c', ha, _, hc, hi⟩ := hx.row h0
  have h1 := hi.1
  have h2 := hx.1
  unfold maxLen at h1 h2 hn
  simp only [Option.some.injEq, Addr.mk.injEq, and_true] at ha
  obtain ⟨rfl, rfl⟩ := ha
  rw [Nat.add_zero] at hc
  have h3 : (0 : Int) < rows.length := by omega
  clear hx hi
  by_cases h : n = (rx rows 0).length
  all_goals
    go_enter Try.func45, Try.ntmps45
    go_wp2
    go_ret
    exact ⟨ret_bool (by simp [h] <;> omega), rfl⟩

set_option maxHeartbeats 800000 in
theorem indexOdd_any (rows : List (List Int)) (B b off cap : Nat) (D : Nat → Prop) (w : World) (h0 : 0 < rows.length) (hx : Mixes D w (some ⟨b, off, none⟩) rows)
    (hB : w.cell? ⟨B, 0, none⟩ = some (.slice (some ⟨b, off, none⟩) rows.length cap)) :
    Calls Try.prog 61 #[.slice (some ⟨b, off, none⟩) rows.length cap, .func (.func 45) #[] #[.pointer (some ⟨B, 0, none⟩)]] w fun e w' => e = .returned (.int .i64 (oddAt (rx rows 0).length rows 0)) ∧ w = w' := by
  have HX := Lib.hid hx
  have HB := Lib.hid hB
  obtain ⟨lx, b1, o1, ha, hc⟩ := hx.open
  have ha := ha (by intro h; subst h; simp at h0)
  simp only [Option.some.injEq, Addr.mk.injEq, and_true] at ha
  obtain ⟨rfl, rfl⟩ := ha
  have Hc := Lib.hid hc
  clear hx hB hc
  go_enter Try.func61, Try.ntmps61
  go_wp2
  go_loop [8] (fun i => ∃ k : Nat, k ≤ rows.length ∧ i = .int .i64 k ∧ oddAt (rx rows 0).length (rows.drop k) k = oddAt (rx rows 0).length rows 0) (fun i => rows.length - (intOf i).toNat)
  case atStart => exact ⟨0, by omega, rfl, rfl⟩
  case round =>
    obtain ⟨k, hk, rfl, hr⟩ := hrel
    have hr' := Lib.hid hr
    clear hr
    by_cases hlt : k < rows.length
    · obtain ⟨a', c', h1, hi⟩ := Hc.out k hlt
      have hm := hi.1
      have e := Lib.hid (show oddAt (rx rows 0).length (rows.drop k) k = if (rx rows k).length = (rx rows 0).length then oddAt (rx rows 0).length (rows.drop (k + 1)) (k + 1) else (k : Int) by rw [drop_rx hlt]; rfl)
      have hm' := Lib.hid hm
      clear hi hm
      by_cases hb : (rx rows k).length = (rx rows 0).length
      · have hb' := Lib.hid hb
        clear hb
        go_wp2_with (go_at_call 45; refine (odd_any _ _ _ rows B b off cap D _ hm'.out h0 HX.out HB.out).mono ?_; rintro e w' ⟨rfl, rfl⟩; rw [decide_eq_false (fun h => h hb'.out)])
        exact ⟨⟨k + 1, by omega, by go_num, by rw [← hr'.out, e.out, if_pos hb'.out]; simp⟩, by simp [intOf]; omega⟩
      · have hb' := Lib.hid hb
        clear hb
        go_wp2_with (go_at_call 45; refine (odd_any _ _ _ rows B b off cap D _ hm'.out h0 HX.out HB.out).mono ?_; rintro e w' ⟨rfl, rfl⟩; rw [decide_eq_true hb'.out])
        go_ret
        exact ⟨ret_int (by rw [← hr'.out, e.out, if_neg hb'.out]), rfl⟩
    · go_wp2
      go_ret
      exact ⟨ret_int (by rw [← hr'.out, List.drop_eq_nil_of_le (by omega)]; rfl), rfl⟩

set_option maxHeartbeats 400000 in
theorem containsOdd_any (rows : List (List Int)) (B b off cap : Nat) (D : Nat → Prop) (w : World) (h0 : 0 < rows.length) (hx : Mixes D w (some ⟨b, off, none⟩) rows)
    (hB : w.cell? ⟨B, 0, none⟩ = some (.slice (some ⟨b, off, none⟩) rows.length cap)) :
    Calls Try.prog 44 #[.slice (some ⟨b, off, none⟩) rows.length cap, .func (.func 45) #[] #[.pointer (some ⟨B, 0, none⟩)]] w fun e w' => e = .returned (.bool (oddB (rx rows 0).length rows)) ∧ w = w' := by
  have Hi := Lib.hid (indexOdd_any rows B b off cap D w h0 hx hB)
  clear hx hB
  rcases oddAt_bound (rx rows 0).length rows 0 (by omega) with ⟨h1, h2⟩ | ⟨h1, h2⟩
  · have h1' := Lib.hid h1
    have h2' := Lib.hid h2
    clear h1 h2
    go_enter Try.func44, Try.ntmps44
    go_wp2_with (go_at_call 61; refine Hi.out.mono ?_; rintro e w' ⟨rfl, rfl⟩; rw [h1'.out])
    go_ret
    exact ⟨ret_bool h2'.out.symm, rfl⟩
  · have h2' := Lib.hid h2
    clear h2
    go_enter Try.func44, Try.ntmps44
    go_wp2_with (go_at_call 61; refine Hi.out.mono ?_; rintro e w' ⟨rfl, rfl⟩)
    go_ret
    exact ⟨ret_bool (by rw [h2'.out]), rfl⟩

end Go.Proofs.Ytnpdkpbecmpdbaa
