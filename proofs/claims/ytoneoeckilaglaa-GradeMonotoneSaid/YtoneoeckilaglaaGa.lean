/-
  Classes (a purity and a price each) in memory; what Check answers, in plain Lean.
-/
import Derived.Test.YtoneoeckilaglaaOwn
set_option linter.unusedVariables false
set_option linter.unusedSimpArgs false
namespace Go.Proofs.Ytoneoeckilaglaa
open Go.RowKit

def gx (l : List (Int × Int)) (k : Nat) : Int × Int := l.getD k (0, 0)
theorem gx_eq {l : List (Int × Int)} {k : Nat} (h : k < l.length) : gx l k = l[k] := by simp [gx, h]
theorem drop_gx {l : List (Int × Int)} {k : Nat} (h : k < l.length) : l.drop k = gx l k :: l.drop (k + 1) := by
  rw [List.drop_eq_getElem_cons h, gx_eq h]
theorem gx_take {l : List (Int × Int)} {i k : Nat} (h : k < i) : gx (l.take i) k = gx l k := by simp [gx, List.getElem?_take, h]

/-- The classes l lie at the address a, two cells each. -/
def Grs (D : Nat → Prop) (w : World) (a : Option Addr) (l : List (Int × Int)) : Prop :=
  l.length ≤ maxLen ∧ (l ≠ [] → ∃ b off, a = some ⟨b, off, Option.none⟩ ∧ D b ∧ ∀ k, k < l.length → w.cell? ⟨b, off + k * 2, Option.none⟩ = some (.int .i64 (gx l k).1) ∧ w.cell? ⟨b, off + k * 2 + 1, Option.none⟩ = some (.int .i64 (gx l k).2))

section
variable {D : Nat → Prop} {w w' : World} {a : Option Addr} {l : List (Int × Int)}
theorem Grs.open (h : Grs D w a l) :
    l.length ≤ 9223372036854775807 ∧ ∃ b off, (l ≠ [] → a = some ⟨b, off, Option.none⟩) ∧ ∀ k, k < l.length → w.cell? ⟨b, off + k * 2, Option.none⟩ = some (.int .i64 (gx l k).1) ∧ w.cell? ⟨b, off + k * 2 + 1, Option.none⟩ = some (.int .i64 (gx l k).2) := by
  refine ⟨h.1, ?_⟩
  by_cases hx : l = []
  · subst hx; exact ⟨0, 0, fun h => absurd rfl h, fun k hk => absurd hk (by simp)⟩
  · obtain ⟨b, off, ha, _, hc⟩ := h.2 hx
    exact ⟨b, off, fun _ => ha, hc⟩
theorem Grs.frame (h : Grs D w a l) (m : Mod NoBlock w w') : Grs D w' a l :=
  ⟨h.1, fun hx => by
    obtain ⟨b, off, ha, hD, hc⟩ := h.2 hx
    exact ⟨b, off, ha, hD, fun k hk => ⟨m.cell (hc k hk).1 id, m.cell (hc k hk).2 id⟩⟩⟩
theorem Grs.mono {D' : Nat → Prop} (h : Grs D w a l) (hd : ∀ b, D b → D' b) : Grs D' w a l :=
  ⟨h.1, fun hx => by
    obtain ⟨b, off, ha, hD, hc⟩ := h.2 hx
    exact ⟨b, off, ha, hd b hD, hc⟩⟩
theorem Grs.take (h : Grs D w a l) (i : Nat) : Grs D w a (l.take i) := by
  refine ⟨by have := h.1; rw [List.length_take]; omega, fun hx => ?_⟩
  obtain ⟨b, off, ha, hD, hc⟩ := h.2 (by intro e; subst e; simp at hx)
  refine ⟨b, off, ha, hD, fun k hk => ?_⟩
  rw [List.length_take] at hk
  rw [gx_take (by omega)]
  exact hc k (by omega)
end

def badG (x : Int × Int) : Bool := decide (x.1 < 0) || (decide (1000 < x.1) || (decide (x.2 < -1000000) || decide (1000000 < x.2)))
theorem badG_true {x : Int × Int} : badG x = true ↔ x.1 < 0 ∨ 1000 < x.1 ∨ x.2 < -1000000 ∨ 1000000 < x.2 := by simp [badG]
theorem badG_false {x : Int × Int} : badG x = false ↔ ¬ (x.1 < 0 ∨ 1000 < x.1 ∨ x.2 < -1000000 ∨ 1000000 < x.2) := by rw [← badG_true]; simp
/-- Whether class i + 1 is not behind class i. -/
def stepG (l : List (Int × Int)) (i : Nat) : Bool := decide ((gx l i).1 ≤ (gx l (i + 1)).1) || decide ((gx l i).2 < (gx l (i + 1)).2)
theorem stepG_true {l : List (Int × Int)} {i : Nat} : stepG l i = true ↔ (gx l i).1 ≤ (gx l (i + 1)).1 ∨ (gx l i).2 < (gx l (i + 1)).2 := by simp [stepG]
theorem stepG_false {l : List (Int × Int)} {i : Nat} : stepG l i = false ↔ ¬ ((gx l i).1 ≤ (gx l (i + 1)).1 ∨ (gx l i).2 < (gx l (i + 1)).2) := by rw [← stepG_true]; simp
def unTo (l : List (Int × Int)) (k : Nat) : Bool := (List.range k).any (stepG l)
theorem unTo_succ (l : List (Int × Int)) (k : Nat) : unTo l (k + 1) = (unTo l k || stepG l k) := by simp [unTo, List.range_succ]
theorem unTo_of {l : List (Int × Int)} {i k : Nat} (hik : i < k) (h : stepG l i = true) : unTo l k = true := by
  unfold unTo
  rw [List.any_eq_true]
  exact ⟨i, List.mem_range.2 hik, h⟩
theorem unTo_false {l : List (Int × Int)} {i k : Nat} (h : unTo l k = false) (hik : i < k) : stepG l i = false := by
  unfold unTo at h
  rw [List.any_eq_false] at h
  simpa using h i (List.mem_range.2 hik)
/-- The error of a list of classes. -/
def chkG (l : List (Int × Int)) : Int := if l.length = 0 then 10 else if 8 < l.length then 8 else if l.any badG then 1 else if unTo l (l.length - 1) then 9 else 0
theorem chkG_nil {l : List (Int × Int)} (h : l.length = 0) : chkG l = 10 := if_pos h
theorem chkG_long {l : List (Int × Int)} (h : 8 < l.length) : chkG l = 8 := by unfold chkG; rw [if_neg (by omega), if_pos h]
theorem chkG_bad {l : List (Int × Int)} (h0 : ¬ l.length = 0) (h8 : ¬ 8 < l.length) (hb : l.any badG = true) : chkG l = 1 := by unfold chkG; rw [if_neg h0, if_neg h8, if_pos hb]
theorem chkG_fine {l : List (Int × Int)} (h0 : ¬ l.length = 0) (h8 : ¬ 8 < l.length) (hb : l.any badG = false) : chkG l = if unTo l (l.length - 1) then 9 else 0 := by unfold chkG; rw [if_neg h0, if_neg h8, hb]; rfl
theorem chkG_facts {l : List (Int × Int)} (h : chkG l = 0) : 1 ≤ l.length ∧ l.length ≤ 8 ∧ (∀ k, k < l.length → 0 ≤ (gx l k).1 ∧ (gx l k).1 ≤ 1000 ∧ -1000000 ≤ (gx l k).2 ∧ (gx l k).2 ≤ 1000000) ∧ ∀ k, k + 1 < l.length → (gx l (k + 1)).1 < (gx l k).1 ∧ (gx l (k + 1)).2 ≤ (gx l k).2 := by
  unfold chkG at h
  split at h
  · exact absurd h (by decide)
  · next h0 =>
    split at h
    · exact absurd h (by decide)
    · next h8 =>
      split at h
      · exact absurd h (by decide)
      · next hb =>
        split at h
        · exact absurd h (by decide)
        · next hu =>
          refine ⟨by omega, by omega, fun k hk => ?_, fun k hk => ?_⟩
          · have : badG (gx l k) = false := by
              rw [gx_eq hk]
              cases hc : badG l[k]
              · rfl
              · exact absurd (List.any_eq_true.2 ⟨_, List.getElem_mem hk, hc⟩) hb
            have := badG_false.1 this
            omega
          · have hu' : unTo l (l.length - 1) = false := by simpa using hu
            have := stepG_false.1 (unTo_false hu' (i := k) (by omega))
            omega

end Go.Proofs.Ytoneoeckilaglaa
