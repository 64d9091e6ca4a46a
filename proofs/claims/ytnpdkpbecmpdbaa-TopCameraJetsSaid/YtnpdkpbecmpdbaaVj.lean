/-
  material.combine, Add, Sub.
-/
import Derived.Test.YtnpdkpbecmpdbaaVi
import Derived.StillTailTactics
set_option linter.unusedVariables false
set_option linter.unusedSimpArgs false
namespace Go.Proofs.Ytnpdkpbecmpdbaa
open Go.RowKit

theorem checkL_two (a b : List Int) : checkL [a, b] = if faultL a = 0 then faultL b else faultL a := by
  unfold checkL
  rw [checkL_one]

/-- check of one mix in a new list. -/
theorem check_n1 (a : Option Addr) (n c : Nat) (xs : List Int) (D : Nat → Prop) (w : World) (hn : xs.length = n) (hx : Ints D w a xs) (t : TypeId) :
    Calls Try.prog 46 #[.slice (some ⟨w.heap.size, 0, Option.none⟩) 1 1] (w.alloc (.cells #[.slice a n c] t)) fun e w' => e = .returned (.int .i64 (faultL xs)) ∧ w.alloc (.cells #[.slice a n c] t) = w' := by
  subst hn
  have := check_any _ 1 [xs] _ _ (Mixes.one hx c t)
  rw [checkL_one] at this
  exact this

def diffsL (a b : List Int) : List Int := List.zipWith (· - ·) a b
/-- The difference of two mixes, or the error. -/
def subL (a b : List Int) : List Int × Int := if bothL a b ≠ 0 then ([], bothL a b) else if (diffsL a b).any (fun n => decide (n < 0)) then ([], 1) else (diffsL a b, 0)
theorem diffsL_length {a b : List Int} (h : a.length = b.length) : (diffsL a b).length = a.length := by simp [diffsL, h]
theorem ix_diffsL {a b : List Int} {k : Nat} (h : a.length = b.length) (hk : k < a.length) : ix (diffsL a b) k = ix a k - ix b k := by
  have h1 : k < (diffsL a b).length := by rw [diffsL_length h]; exact hk
  rw [ix_eq h1, ix_eq hk, ix_eq (by omega)]; simp [diffsL]
theorem both_ok {a b : List Int} (h1 : faultL a = 0) (h2 : faultL b = 0) (h : a.length = b.length) : bothL a b = 0 := by
  unfold bothL; rw [if_neg (by simpa using h1), if_neg (by simpa using h2), if_neg (by simpa using h)]
theorem addL_ok {a b : List Int} (h1 : faultL a = 0) (h2 : faultL b = 0) (h : a.length = b.length) : addL a b = if faultL (sumsL a b) = 0 then (sumsL a b, 0) else ([], 2) := by
  obtain ⟨l1, g1⟩ := ok_of_fault h1
  obtain ⟨l2, g2⟩ := ok_of_fault h2
  have hlen := sumsL_length h
  have he : (sumsL a b).any badMass = (sumsL a b).any over := by
    rw [Bool.eq_iff_iff, List.any_eq_true, List.any_eq_true]
    constructor
    · rintro ⟨x, hx, hb⟩
      obtain ⟨k, hk, rfl⟩ := List.mem_iff_getElem.1 hx
      refine ⟨_, hx, ?_⟩
      rw [← ix_eq hk, ix_sumsL h (by omega)] at hb ⊢
      have := g1 k (by omega)
      have := g2 k (by omega)
      simp [badMass] at hb
      simp [over]; omega
    · rintro ⟨x, hx, hb⟩
      exact ⟨x, hx, by simp [over] at hb; simp [badMass, hb]⟩
  unfold addL
  rw [if_neg (by simpa using both_ok h1 h2 h), ← he]
  cases hc : (sumsL a b).any badMass
  · rw [faultL_ok (by omega) hc]; rfl
  · rw [faultL_bad (by omega) hc]; rfl
theorem subL_ok {a b : List Int} (h1 : faultL a = 0) (h2 : faultL b = 0) (h : a.length = b.length) : subL a b = if faultL (diffsL a b) = 0 then (diffsL a b, 0) else ([], 1) := by
  obtain ⟨l1, g1⟩ := ok_of_fault h1
  obtain ⟨l2, g2⟩ := ok_of_fault h2
  have hlen := diffsL_length h
  have he : (diffsL a b).any badMass = (diffsL a b).any (fun n => decide (n < 0)) := by
    rw [Bool.eq_iff_iff, List.any_eq_true, List.any_eq_true]
    constructor
    · rintro ⟨x, hx, hb⟩
      obtain ⟨k, hk, rfl⟩ := List.mem_iff_getElem.1 hx
      refine ⟨_, hx, ?_⟩
      rw [← ix_eq hk, ix_diffsL h (by omega)] at hb ⊢
      have := g1 k (by omega)
      have := g2 k (by omega)
      simp [badMass] at hb
      simp; omega
    · rintro ⟨x, hx, hb⟩
      exact ⟨x, hx, by simp at hb; simp [badMass, hb]⟩
  unfold subL
  rw [if_neg (by simpa using both_ok h1 h2 h), ← he]
  cases hc : (diffsL a b).any badMass
  · rw [faultL_ok (by omega) hc]; rfl
  · rw [faultL_bad (by omega) hc]; rfl

end Go.Proofs.Ytnpdkpbecmpdbaa
