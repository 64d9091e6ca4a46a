/-
  top: times, awake52.
-/
import Derived.Test.YtnpdkpbecmpdbaaKs
import Derived.Test.YtnpdkpbecmpdbaaPg
set_option linter.unusedVariables false
set_option linter.unusedSimpArgs false
namespace Go.Proofs.Ytnpdkpbecmpdbaa
open Go.RowKit

set_option maxRecDepth 100000 in
set_option maxHeartbeats 1600000 in
theorem times_any {a : Option Addr} {c : Nat} {xs : List Int} {x : Int} {D : Nat → Prop} {w : World} (hx : Ints D w a xs) (hn : ∀ k, k < xs.length → ix xs k ≠ x) :
    Calls Try.prog 18 #[.slice a xs.length c, .int .i64 x] w fun e w' => e = .returned (.int .i64 0) ∧ w = w' := by
  obtain ⟨hl, b, off, ha, hc⟩ := hx.open
  have Ha := Lib.hid ha
  have Hc := Lib.hid hc
  have Hn := Lib.hid hn
  clear hx ha hc hn
  go_enter Try.func18, Try.ntmps18
  go_wp2_with fail
  go_loopw [5, 9] (fun s i wr => ∃ k : Nat, k ≤ xs.length ∧ i = .int .i64 k ∧ s = .int .i64 0 ∧ w = wr) (fun _ i _ => xs.length - (intOf i).toNat)
  case atStart => exact ⟨0, by omega, rfl, rfl, rfl⟩
  case round =>
    obtain ⟨k, hk, rfl, rfl, rfl⟩ := hrel
    by_cases hlt : k < xs.length
    · obtain rfl := Ha.out (by intro e; subst e; simp at hlt)
      have c0 := Hc.out k hlt
      have e0 : (ix xs k == x) = false := beq_eq_false_iff_ne.2 (Hn.out k hlt)
      have q1 : (0 : Int) ≤ (k : Int) := by omega
      have q2 : (k : Int) < (xs.length : Int) := by omega
      go_wp2_with fail
      exact ⟨⟨k + 1, by omega, by go_num, by trivial, by trivial⟩, by simp [intOf]; omega⟩
    · go_wp2_with fail
      go_ret
      exact ⟨rfl, rfl⟩

set_option maxRecDepth 100000 in
set_option maxHeartbeats 1600000 in
theorem awake52_any (w : World) : Calls Try.prog 15 #[] w fun e w' => e = .returned (.bool true) ∧ Mod NoBlock w w' := by
  have h := fun w' => mis_any ⟨1, 0, 0, 10, 0, 0, 0⟩ 6 w'
  rw [misC_ok (x := ⟨1, 0, 0, 10, 0, 0, 0⟩) (by unfold NumC; decide) (by decide) (by decide)] at h
  have H := Lib.hid h
  clear h
  go_enter Try.func15, Try.ntmps15
  go_wp2_with (go_at_call 23; refine (H.out _).mono ?_; rintro e w2 ⟨rfl, m⟩)
  have M := Lib.hid m
  clear m
  go_wp2_with fail
  go_ret
  exact ⟨rfl, M.out⟩

end Go.Proofs.Ytnpdkpbecmpdbaa
