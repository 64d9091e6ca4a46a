/-
  TopCameraJets: the fixed example; the steps at which a class is seen.
-/
import Derived.Test.YtnpdkpbecmpdbaaJe
set_option linter.unusedVariables false
set_option linter.unusedSimpArgs false
namespace Go.Proofs.Ytnpdkpbecmpdbaa
open Go.RowKit

def TAll : Nat → Prop := fun _ => True

set_option maxRecDepth 100000 in
set_option maxHeartbeats 1600000 in
theorem awakeT_any (w : World) : Calls Try.prog 7 #[] w fun e w' => e = .returned (.bool true) ∧ Mod NoBlock w w' := by
  have hv : ValOk 5 2 0 := ⟨by decide, by decide, by decide, by decide, by decide, by decide⟩
  have hs : StepsOk [1] := ⟨by decide, fun k hk => by
    have : k < 1 := hk
    obtain rfl : k = 0 := by omega
    decide, fun k hk => by have : k + 1 < 1 := hk; omega⟩
  go_enter Try.func7, Try.ntmps7
  go_wp2_with fail
  refine (plan_ok 5 2 0 _ 1 [1] TAll _ hv (Ints.one TAll w 1 _ trivial) hs).mono ?_
  rintro e w1 ⟨a, c, n, F, T, rfl, m, hw, hp⟩
  have M := Lib.hid (((Mod.refl NoBlock w).alloc _).trans m)
  obtain rfl : n = 1 := by
    have h1 := hp.le
    have h2 := hp.some (by decide)
    have h3 : n ≤ 1 := h1
    omega
  have hF : F 0 = 6 := by
    obtain ⟨i, hi, e⟩ := hp.frm 0 (by decide)
    obtain rfl : i = 0 := by have : i < 1 := hi; omega
    rw [e]; decide
  have hT : T 0 = 8 := by
    have := (hp.last 0 rfl 0 rfl).1
    rw [this]; decide
  obtain ⟨b, off, rfl, hc⟩ := hw (by decide)
  obtain ⟨h1, h2⟩ := hc 0 (by decide)
  rw [Nat.zero_mul, Nat.add_zero] at h1 h2
  rw [hF] at h1
  rw [hT] at h2
  clear hF hT hc hw hp m hs hv
  go_wp2
  go_ret
  exact ⟨rfl, M.out⟩

/-- The steps below k at which the class was seen. -/
structure SeenAt (k : Nat) (hs : List Int) : Prop where
  len : hs.length ≤ k
  rng : ∀ j, j < hs.length → 0 ≤ ix hs j ∧ ix hs j < (k : Int)
  ord : ∀ j, j + 1 < hs.length → ix hs j ≤ ix hs (j + 1)
theorem SeenAt.nil : SeenAt 0 [] := ⟨Nat.le_refl _, fun j h => absurd h (by simp), fun j h => absurd h (by simp)⟩
theorem SeenAt.more {k : Nat} {hs : List Int} (h : SeenAt k hs) : SeenAt (k + 1) hs := ⟨by have := h.len; omega, fun j hj => by have := h.rng j hj; omega, h.ord⟩
theorem SeenAt.snoc {k : Nat} {hs : List Int} (h : SeenAt k hs) : SeenAt (k + 1) (hs ++ [(k : Int)]) := by
  have hl : (hs ++ [(k : Int)]).length = hs.length + 1 := by simp
  have hlast : ix (hs ++ [(k : Int)]) hs.length = k := by simp [ix]
  refine ⟨by rw [hl]; have := h.len; omega, fun j hj => ?_, fun j hj => ?_⟩
  · by_cases hjl : j < hs.length
    · rw [ix_append_left hjl]; have := h.rng j hjl; omega
    · obtain rfl : j = hs.length := by rw [hl] at hj; omega
      rw [hlast]; omega
  · by_cases hjl : j + 1 < hs.length
    · rw [ix_append_left hjl, ix_append_left (by omega)]; exact h.ord j hjl
    · have hj1 : j + 1 = hs.length := by rw [hl] at hj; omega
      rw [hj1, hlast, ix_append_left (by omega)]
      have := h.rng j (by omega)
      omega
theorem SeenAt.ok {k : Nat} {hs : List Int} (h : SeenAt k hs) (hk : k ≤ 40) : StepsOk hs :=
  ⟨by have := h.len; omega, fun j hj => by have := h.rng j hj; omega, h.ord⟩

end Go.Proofs.Ytnpdkpbecmpdbaa
