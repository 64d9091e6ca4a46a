/-
  Lists of materials (a name and a density each) in memory; what Check answers, in plain Lean.
-/
import Derived.Test.YtghciackhkimoaaOwn
import Derived.Test.YtghciackhkimoaaStr
set_option linter.unusedVariables false
set_option linter.unusedSimpArgs false
namespace Go.Proofs.Ytghciackhkimoaa
open Go.RowKit

def mx (l : List (ByteArray × Int)) (k : Nat) : ByteArray × Int := l.getD k (ByteArray.empty, 0)
theorem mx_eq {l : List (ByteArray × Int)} {k : Nat} (h : k < l.length) : mx l k = l[k] := by simp [mx, h]
theorem drop_mx {l : List (ByteArray × Int)} {k : Nat} (h : k < l.length) : l.drop k = mx l k :: l.drop (k + 1) := by
  rw [List.drop_eq_getElem_cons h, mx_eq h]
theorem mx_take {l : List (ByteArray × Int)} {i k : Nat} (h : k < i) : mx (l.take i) k = mx l k := by simp [mx, List.getElem?_take, h]

/-- The materials l lie at the address a, two cells each. -/
def Mats (D : Nat → Prop) (w : World) (a : Option Addr) (l : List (ByteArray × Int)) : Prop :=
  l.length ≤ maxLen ∧ (l ≠ [] → ∃ b off, a = some ⟨b, off, Option.none⟩ ∧ D b ∧ ∀ k, k < l.length → w.cell? ⟨b, off + k * 2, Option.none⟩ = some (.string (mx l k).1) ∧ w.cell? ⟨b, off + k * 2 + 1, Option.none⟩ = some (.int .i64 (mx l k).2))

section
variable {D : Nat → Prop} {w w' : World} {a : Option Addr} {l : List (ByteArray × Int)}
theorem Mats.open (h : Mats D w a l) :
    l.length ≤ 9223372036854775807 ∧ ∃ b off, (l ≠ [] → a = some ⟨b, off, Option.none⟩) ∧ ∀ k, k < l.length → w.cell? ⟨b, off + k * 2, Option.none⟩ = some (.string (mx l k).1) ∧ w.cell? ⟨b, off + k * 2 + 1, Option.none⟩ = some (.int .i64 (mx l k).2) := by
  refine ⟨h.1, ?_⟩
  by_cases hx : l = []
  · subst hx; exact ⟨0, 0, fun h => absurd rfl h, fun k hk => absurd hk (by simp)⟩
  · obtain ⟨b, off, ha, _, hc⟩ := h.2 hx
    exact ⟨b, off, fun _ => ha, hc⟩
theorem Mats.frame (h : Mats D w a l) (m : Mod NoBlock w w') : Mats D w' a l :=
  ⟨h.1, fun hx => by
    obtain ⟨b, off, ha, hD, hc⟩ := h.2 hx
    exact ⟨b, off, ha, hD, fun k hk => ⟨m.cell (hc k hk).1 id, m.cell (hc k hk).2 id⟩⟩⟩
theorem Mats.take (h : Mats D w a l) (i : Nat) : Mats D w a (l.take i) := by
  refine ⟨by have := h.1; rw [List.length_take]; omega, fun hx => ?_⟩
  obtain ⟨b, off, ha, hD, hc⟩ := h.2 (by intro e; subst e; simp at hx)
  refine ⟨b, off, ha, hD, fun k hk => ?_⟩
  rw [List.length_take] at hk
  rw [mx_take (by omega)]
  exact hc k (by omega)
end

def eqS (x y : ByteArray) : Bool := x.toList == y.toList
theorem eqS_true {x y : ByteArray} : eqS x y = true ↔ x = y := by
  unfold eqS
  rw [beq_iff_eq]
  exact ⟨toList_inj, fun h => by rw [h]⟩
/-- The place of the first material of this name, counted from k on; -1 if there is none. -/
def eqAt (x : ByteArray) (l : List (ByteArray × Int)) (k : Int) : Int := match l with | [] => -1 | y :: r => if eqS x y.1 then k else eqAt x r (k + 1)
theorem eqAt_bound (x : ByteArray) (l : List (ByteArray × Int)) (k : Int) (hk : 0 ≤ k) : (eqAt x l k = -1 ∧ l.any (fun y => eqS x y.1) = false) ∨ (0 ≤ eqAt x l k ∧ l.any (fun y => eqS x y.1) = true) := by
  induction l generalizing k with
  | nil => exact .inl ⟨rfl, rfl⟩
  | cons y r ih =>
    unfold eqAt
    cases hb : eqS x y.1
    · simpa [hb] using ih (k + 1) (by omega)
    · right; simp [hb, hk]

/-- The error of a material. -/
def matFault (x : ByteArray × Int) : Int := if nameL (bytesI x.1) then (if x.2 < 1 ∨ 20000 < x.2 then 1 else 0) else 5
theorem matFault_name {x : ByteArray × Int} (h : nameL (bytesI x.1) = false) : matFault x = 5 := by simp [matFault, h]
theorem matFault_range {x : ByteArray × Int} (h : nameL (bytesI x.1) = true) (h2 : x.2 < 1 ∨ 20000 < x.2) : matFault x = 1 := by unfold matFault; rw [h, if_pos rfl, if_pos h2]
theorem matFault_ok {x : ByteArray × Int} (h : nameL (bytesI x.1) = true) (h2 : ¬ (x.2 < 1 ∨ 20000 < x.2)) : matFault x = 0 := by unfold matFault; rw [h, if_pos rfl, if_neg h2]
/-- The first error of some materials. -/
def firstF : List (ByteArray × Int) → Int
  | [] => 0
  | x :: r => if matFault x = 0 then firstF r else matFault x
/-- Whether a name occurs again before place i. -/
def hasB (l : List (ByteArray × Int)) (i : Nat) : Bool := (l.take i).any (fun y => eqS (mx l i).1 y.1)
def dupTo (l : List (ByteArray × Int)) (k : Nat) : Bool := (List.range k).any (hasB l)
theorem dupTo_succ (l : List (ByteArray × Int)) (k : Nat) : dupTo l (k + 1) = (dupTo l k || hasB l k) := by simp [dupTo, List.range_succ]
theorem dupTo_of {l : List (ByteArray × Int)} {i k : Nat} (hik : i < k) (h : hasB l i = true) : dupTo l k = true := by
  unfold dupTo
  rw [List.any_eq_true]
  exact ⟨i, List.mem_range.2 hik, h⟩
/-- The error of a list of materials. -/
def checkM (l : List (ByteArray × Int)) : Int :=
  if 16 < l.length then 8 else if l.length = 0 then 10 else if firstF l = 0 then (if dupTo l l.length then 6 else 0) else firstF l
theorem checkM_long {l : List (ByteArray × Int)} (h : 16 < l.length) : checkM l = 8 := if_pos h
theorem checkM_nil {l : List (ByteArray × Int)} (h : l.length = 0) : checkM l = 10 := by unfold checkM; rw [if_neg (by omega), if_pos h]
theorem checkM_bad {l : List (ByteArray × Int)} (h : ¬ 16 < l.length) (h0 : ¬ l.length = 0) (hf : ¬ firstF l = 0) : checkM l = firstF l := by unfold checkM; rw [if_neg h, if_neg h0, if_neg hf]
theorem checkM_ok {l : List (ByteArray × Int)} (h : ¬ 16 < l.length) (h0 : ¬ l.length = 0) (hf : firstF l = 0) : checkM l = if dupTo l l.length then 6 else 0 := by unfold checkM; rw [if_neg h, if_neg h0, if_pos hf]
theorem firstF_ok {l : List (ByteArray × Int)} (h : firstF l = 0) : ∀ k, k < l.length → matFault (mx l k) = 0 := by
  induction l with
  | nil => intro k hk; simp at hk
  | cons x r ih =>
    intro k hk
    unfold firstF at h
    split at h
    · next h0 =>
      cases k with
      | zero => exact h0
      | succ k => exact ih h k (by simpa using hk)
    · contradiction
theorem checkM_dens {l : List (ByteArray × Int)} (h : checkM l = 0) : l.length ≤ 16 ∧ ∀ k, k < l.length → 1 ≤ (mx l k).2 ∧ (mx l k).2 ≤ 20000 := by
  unfold checkM at h
  split at h
  · exact absurd h (by decide)
  · split at h
    · exact absurd h (by decide)
    · split at h
      · next h16 h0 hf =>
        refine ⟨by omega, fun k hk => ?_⟩
        have := firstF_ok hf k hk
        unfold matFault at this
        split at this
        · split at this
          · exact absurd this (by decide)
          · omega
        · exact absurd this (by decide)
      · contradiction

end Go.Proofs.Ytghciackhkimoaa
