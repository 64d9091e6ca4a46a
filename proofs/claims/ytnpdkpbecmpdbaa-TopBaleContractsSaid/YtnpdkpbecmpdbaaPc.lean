/-
  share.weighed: the sum of weights, or an error.
-/
import Derived.Test.YtnpdkpbecmpdbaaNj1
set_option linter.unusedVariables false
set_option linter.unusedSimpArgs false
namespace Go.Proofs.Ytnpdkpbecmpdbaa
open Go.RowKit

/-- What weighed returns, of weights that are not too great: without an error their sum, and none is negative. -/
def WgRes (xs : List Int) (w : World) (e : Ending) (w' : World) : Prop :=
  ∃ s er : Int, e = .returned (.tuple #[.int .i64 s, .int .i64 er]) ∧ Mod NoBlock w w' ∧ (er = 0 → xs ≠ [] ∧ (∀ k, k < xs.length → 0 ≤ ix xs k) ∧ s = xs.sum)
theorem WgRes.bad {xs : List Int} {w w' : World} (m : Mod NoBlock w w') : WgRes xs w (.returned (.tuple #[.int .i64 0, .int .i64 1])) w' := ⟨0, 1, rfl, m, fun h => by cases h⟩

theorem sumN_zero {l : List Int} (h : (sumN l).2 = 0) : (sumN l).1 = l.sum := by
  unfold sumN at h ⊢
  by_cases h1 : l.all inB = true
  · rw [if_pos h1] at h ⊢
    by_cases h2 : inB l.sum = true
    · rw [chkN_ok h2]
    · rw [chkN_bad (by simpa using h2)] at h
      cases h
  · rw [if_neg h1] at h
    cases h

set_option maxRecDepth 100000 in
set_option maxHeartbeats 1600000 in
theorem weighed_any {a : Option Addr} {c : Nat} {xs : List Int} {D : Nat → Prop} {w : World} (hx : Ints D w a xs) (hn : xs.length ≤ 16) (hb : ∀ k, k < xs.length → ix xs k ≤ 1073741824) :
    Calls Try.prog 49 #[.slice a xs.length c] w (WgRes xs w) := by
  obtain ⟨hl, b, off, ha, hc⟩ := hx.open
  have HX := Lib.hid hx
  have Ha := Lib.hid ha
  have Hc := Lib.hid hc
  have Hb := Lib.hid hb
  have HS := Lib.hid (numSum_any a c xs D w hx (by omega))
  clear hx ha hc hb
  by_cases h0 : xs.length = 0
  · rw [h0]
    go_enter Try.func49, Try.ntmps49
    go_wp2_with fail
    go_ret2
    exact WgRes.bad (Mod.refl _ _)
  · have g1 : ¬ ((xs.length : Int) < 1) := by omega
    have g2 : (xs.length : Int) ≤ 512 := by omega
    go_enter Try.func49, Try.ntmps49
    go_wp2_with fail
    go_loopw [16] (fun i wr => ∃ k : Nat, k ≤ xs.length ∧ i = .int .i64 k ∧ w = wr ∧ ∀ j, j < k → 0 ≤ ix xs j) (fun i _ => xs.length - (intOf i).toNat)
    case atStart => exact ⟨0, by omega, rfl, rfl, fun j hj => absurd hj (Nat.not_lt_zero j)⟩
    case round =>
      obtain ⟨k, hk, rfl, rfl, hp⟩ := hrel
      have HP := Lib.hid hp
      clear hp
      by_cases hlt : k < xs.length
      · obtain rfl := Ha.out (by intro e; subst e; simp at hlt)
        have c0 := Hc.out k hlt
        have b0 := Hb.out k hlt
        have q1 : (0 : Int) ≤ (k : Int) := by omega
        have q2 : (k : Int) < (xs.length : Int) := by omega
        by_cases hv : ix xs k < 0
        · go_wp2_with fail
          go_ret2
          exact WgRes.bad (Mod.refl _ _)
        · have Hv := Lib.hid hv
          have v2 : ix xs k ≤ 1125899906842624 := by omega
          go_wp2_with fail
          refine ⟨⟨k + 1, by omega, by go_num, by trivial, fun j hj => ?_⟩, by simp [intOf]; omega⟩
          by_cases e : j = k
          · have := Hv.out; rw [e]; omega
          · exact HP.out j (by omega)
      · go_wp2_with (go_at_call 65; refine HS.out.mono ?_; rintro e w2 ⟨rfl, m⟩)
        have HM := Lib.hid m
        clear m
        go_wp2_with fail
        go_ret2
        exact ⟨_, _, rfl, HM.out, fun he => ⟨fun e => h0 (by rw [e]; rfl), fun j hj => HP.out j (by omega), sumN_zero he⟩⟩

end Go.Proofs.Ytnpdkpbecmpdbaa
