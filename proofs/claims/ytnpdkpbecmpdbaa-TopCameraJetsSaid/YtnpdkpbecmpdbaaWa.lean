/-
  Walks of the small functions of material and of the references: what each call computes.
-/
import Derived.Test.YtnpdkpbecmpdbaaRows
import Derived.Test.YtnpdkpbecmpdbaaMem
import Derived.Test.YtnpdkpbecmpdbaaPure
set_option linter.unusedVariables false
set_option linter.unusedSimpArgs false
namespace Go.Proofs.Ytnpdkpbecmpdbaa
open Go.RowKit

set_option maxHeartbeats 400000 in
theorem badMass_any (n : Int) (w : World) :
    Calls Try.prog 63 #[.int .i64 n] w fun e w' => e = .returned (.bool (badMass n)) ∧ w = w' := by
  by_cases h : n < 0
  · go_enter Try.func63, Try.ntmps63
    go_wp2
    go_ret
    exact ⟨by simp [badMass, h], rfl⟩
  · have h' : decide (n < 0) = false := by simpa using h
    go_enter Try.func63, Try.ntmps63
    go_wp2
    go_ret
    exact ⟨by simp [badMass, h'], rfl⟩

set_option maxHeartbeats 400000 in
theorem indexBad_any (a : Option Addr) (c : Nat) (xs : List Int) (D : Nat → Prop) (w : World) (hx : Ints D w a xs) :
    Calls Try.prog 69 #[.slice a xs.length c, .func (.func 63) #[] #[]] w fun e w' => e = .returned (.int .i64 (badAt xs 0)) ∧ w = w' := by
  obtain ⟨lx, b, o, ha, hc⟩ := hx.open
  clear hx
  go_enter Try.func69, Try.ntmps69
  go_wp2
  go_loop [8] (fun i => ∃ k : Nat, k ≤ xs.length ∧ i = .int .i64 k ∧ badAt (xs.drop k) k = badAt xs 0) (fun i => xs.length - (intOf i).toNat)
  case atStart => exact ⟨0, by omega, rfl, rfl⟩
  case round =>
    obtain ⟨k, hk, rfl, hr⟩ := hrel
    have hr' := Lib.hid hr
    clear hr
    by_cases hlt : k < xs.length
    · have h1 := hc k hlt
      obtain rfl := ha (by intro h; simp [h] at hlt)
      clear ha hc
      have e : badAt (xs.drop k) k = if badMass (ix xs k) then (k : Int) else badAt (xs.drop (k + 1)) (k + 1) := by rw [drop_ix hlt]; rfl
      cases hb : badMass (ix xs k)
      · have hb' := Lib.hid hb
        have e' := Lib.hid e
        clear e hb
        go_wp2_with (go_at_call 63; refine (badMass_any _ _).mono ?_; rintro e w' ⟨rfl, rfl⟩; rw [hb'.out])
        exact ⟨⟨k + 1, by omega, by go_num, by rw [← hr'.out, e'.out, hb'.out]; simp⟩, by simp [intOf]; omega⟩
      · have hb' := Lib.hid hb
        have e' := Lib.hid e
        clear e hb
        go_wp2_with (go_at_call 63; refine (badMass_any _ _).mono ?_; rintro e w' ⟨rfl, rfl⟩; rw [hb'.out])
        go_ret
        exact ⟨ret_int (by rw [← hr'.out, e'.out, hb'.out]; simp), rfl⟩
    · go_wp2
      go_ret
      exact ⟨ret_int (by rw [← hr'.out, List.drop_eq_nil_of_le (by omega)]; rfl), rfl⟩

set_option maxHeartbeats 400000 in
theorem containsBad_any (a : Option Addr) (c : Nat) (xs : List Int) (D : Nat → Prop) (w : World) (hx : Ints D w a xs) :
    Calls Try.prog 62 #[.slice a xs.length c, .func (.func 63) #[] #[]] w fun e w' => e = .returned (.bool (xs.any badMass)) ∧ w = w' := by
  have H := Lib.hid hx
  clear hx
  rcases badAt_bound xs 0 (by omega) with ⟨h1, h2⟩ | ⟨h1, h2⟩
  · have h1' := Lib.hid h1
    have h2' := Lib.hid h2
    clear h1 h2
    go_enter Try.func62, Try.ntmps62
    go_wp2_with (go_at_call 69; refine (indexBad_any _ _ _ _ _ H.out).mono ?_; rintro e w' ⟨rfl, rfl⟩; rw [h1'.out])
    go_ret
    exact ⟨ret_bool h2'.out.symm, rfl⟩
  · have h2' := Lib.hid h2
    clear h2
    go_enter Try.func62, Try.ntmps62
    go_wp2_with (go_at_call 69; refine (indexBad_any _ _ _ _ _ H.out).mono ?_; rintro e w' ⟨rfl, rfl⟩)
    go_ret
    exact ⟨ret_bool (by rw [h2'.out]), rfl⟩

set_option maxHeartbeats 800000 in
theorem check_any (a : Option Addr) (c : Nat) (xss : List (List Int)) (D : Nat → Prop) (w : World) (hx : Mixes D w a xss) :
    Calls Try.prog 46 #[.slice a xss.length c] w fun e w' => e = .returned (.int .i64 (checkL xss)) ∧ w = w' := by
  obtain ⟨lx, b, o, ha, hc⟩ := hx.open
  clear hx
  go_enter Try.func46, Try.ntmps46
  go_wp2
  go_loop [7] (fun i => ∃ k : Nat, k ≤ xss.length ∧ i = .int .i64 k ∧ checkL (xss.drop k) = checkL xss) (fun i => xss.length - (intOf i).toNat)
  case atStart => exact ⟨0, by omega, rfl, rfl⟩
  case round =>
    obtain ⟨k, hk, rfl, hr⟩ := hrel
    have hr' := Lib.hid hr
    clear hr
    by_cases hlt : k < xss.length
    · obtain ⟨a', c', h1, hi⟩ := hc k hlt
      obtain rfl := ha (by intro h; simp [h] at hlt)
      clear ha hc
      have e := Lib.hid (show checkL (xss.drop k) = if faultL (rx xss k) = 0 then checkL (xss.drop (k + 1)) else faultL (rx xss k) by rw [drop_rx hlt]; rfl)
      have hi' := Lib.hid hi
      clear hi
      by_cases hl : 16 < (rx xss k).length
      · have hf := Lib.hid (faultL_long hl)
        go_wp2
        go_ret
        exact ⟨ret_int (by rw [← hr'.out, e.out, hf.out]; rfl), rfl⟩
      · cases hb : (rx xss k).any badMass
        · have hf := Lib.hid (faultL_ok hl hb)
          have hb' := Lib.hid hb
          clear hb
          go_wp2_with (go_at_call 62; refine (containsBad_any _ _ _ _ _ hi'.out).mono ?_; rintro e w' ⟨rfl, rfl⟩; rw [hb'.out])
          exact ⟨⟨k + 1, by omega, by go_num, by rw [← hr'.out, e.out, hf.out]; rfl⟩, by simp [intOf]; omega⟩
        · have hf := Lib.hid (faultL_bad hl hb)
          have hb' := Lib.hid hb
          clear hb
          go_wp2_with (go_at_call 62; refine (containsBad_any _ _ _ _ _ hi'.out).mono ?_; rintro e w' ⟨rfl, rfl⟩; rw [hb'.out])
          go_ret
          exact ⟨ret_int (by rw [← hr'.out, e.out, hf.out]; rfl), rfl⟩
    · go_wp2
      go_ret
      exact ⟨ret_int (by rw [← hr'.out, List.drop_eq_nil_of_le (by omega)]; rfl), rfl⟩

end Go.Proofs.Ytnpdkpbecmpdbaa
