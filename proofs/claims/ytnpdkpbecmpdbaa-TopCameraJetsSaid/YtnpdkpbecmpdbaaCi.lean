/-
  camera: what lies in memory while the reference's Next runs.
-/
import Derived.Test.YtnpdkpbecmpdbaaCh
import Derived.Laws.OwnMore
set_option linter.unusedVariables false
set_option linter.unusedSimpArgs false
namespace Go.Proofs.Ytnpdkpbecmpdbaa
open Go.RowKit

def rowV (n : Nat) (F : Nat → Int) : List Value := (List.range n).map fun j => .int .i64 (F j)
theorem rowV_length (n : Nat) (F : Nat → Int) : (rowV n F).length = n := by simp [rowV]
theorem rowV_get {n j : Nat} {F : Nat → Int} (h : j < n) : (rowV n F)[j]? = some (.int .i64 (F j)) := by simp [rowV, h]
theorem rowV_snoc (n : Nat) (F : Nat → Int) : rowV n F ++ [.int .i64 (F n)] = rowV (n + 1) F := by simp [rowV, List.range_succ]
theorem rowV_set {n k : Nat} {F F' : Nat → Int} {v : Int} (hv : k < n → v = F' k) (h : ∀ j, j < n → j ≠ k → F j = F' j) : (rowV n F).set k (.int .i64 v) = rowV n F' := by
  refine List.ext_getElem? fun j => ?_
  by_cases hj : j < n
  · rw [rowV_get hj]
    by_cases hjk : k = j
    · subst hjk
      rw [List.getElem?_set_self (by rw [rowV_length]; exact hj), hv hj]
    · rw [List.getElem?_set_ne hjk, rowV_get hj, h j hj (fun e => hjk e.symm)]
  · rw [List.getElem?_eq_none (by rw [List.length_set, rowV_length]; omega), List.getElem?_eq_none (by rw [rowV_length]; omega)]
theorem rowV_list (l : List Int) : l.map (Value.int .i64) = rowV l.length (ix l) := by
  refine List.ext_getElem? fun j => ?_
  by_cases hj : j < l.length
  · rw [rowV_get hj, List.getElem?_map, List.getElem?_eq_getElem hj, ix_eq hj]; rfl
  · rw [List.getElem?_eq_none (by simp; omega), List.getElem?_eq_none (by rw [rowV_length]; omega)]
theorem rowV_of {l : List Int} {n : Nat} {F : Nat → Int} (hl : l.length = n) (h : ∀ j, j < n → ix l j = F j) : l.map (Value.int .i64) = rowV n F := by
  subst hl
  rw [rowV_list]
  refine List.ext_getElem? fun j => ?_
  by_cases hj : j < l.length
  · rw [rowV_get hj, rowV_get hj, h j hj]
  · rw [List.getElem?_eq_none (by rw [rowV_length]; omega), List.getElem?_eq_none (by rw [rowV_length]; omega)]
theorem rowV_congr {n : Nat} {F F' : Nat → Int} (h : ∀ j, j < n → F j = F' j) : rowV n F = rowV n F' := by
  refine List.ext_getElem? fun j => ?_
  by_cases hj : j < n
  · rw [rowV_get hj, rowV_get hj, h j hj]
  · rw [List.getElem?_eq_none (by rw [rowV_length]; omega), List.getElem?_eq_none (by rw [rowV_length]; omega)]

theorem Own.cellAt {w : World} {B e g c n j : Nat} {F : Nat → Int} (h : Own w B e (some ⟨g, 0, none⟩) c (rowV n F)) (hj : j < n) : w.cell? ⟨g, j, none⟩ = some (.int .i64 (F j)) ∧ w.frozen? ⟨g, j, none⟩ = false := by
  obtain ⟨g', he, _, _, h1, h2⟩ := h.head (by intro e; have := congrArg List.length e; rw [rowV_length] at this; simp at this; omega)
  simp only [Option.some.injEq, Addr.mk.injEq, and_true] at he
  obtain rfl := he
  exact ⟨h1 j _ (rowV_get hj), h2 j⟩
theorem Own.addr {w : World} {B e c n : Nat} {a : Option Addr} {F : Nat → Int} (h : Own w B e a c (rowV n F)) (hn : 0 < n) : ∃ g, a = some ⟨g, 0, none⟩ ∧ B ≤ g ∧ g < w.heap.size := by
  obtain ⟨g', he, h1, h2, _⟩ := h.head (by intro e; have := congrArg List.length e; rw [rowV_length] at this; simp at this; omega)
  exact ⟨g', he, h1, h2⟩
theorem Own.set {w : World} {B e g c n k : Nat} {F F' : Nat → Int} {v : Int} (h : Own w B e (some ⟨g, 0, none⟩) c (rowV n F)) (hv : k < n → v = F' k) (hF : ∀ j, j < n → j ≠ k → F j = F' j) :
    Own (w.setCell ⟨g, k, none⟩ (.int .i64 v)) B e (some ⟨g, 0, none⟩) c (rowV n F') := by
  have h' := h
  unfold Own at h' ⊢
  rw [rowV_length] at h' ⊢
  have := (World.ownsRow.stored h' k (.int .i64 v)).1
  rwa [rowV_set hv hF] at this

def Apart (a b : Option Addr) : Prop := ∀ k, blockOf a = some k → blockOf b ≠ some k
theorem Apart.symm {a b : Option Addr} (h : Apart a b) : Apart b a := fun k h1 h2 => h k h2 h1

/-- What is owed, once that of the first k outputs is taken over. -/
def midZ (O : Nat → Int) (k j : Nat) : Int := if j < k then O j else 0
theorem midZ_lt {O : Nat → Int} {k j : Nat} (h : j < k) : midZ O k j = O j := if_pos h
theorem midZ_ge {O : Nat → Int} {k j : Nat} (h : ¬ j < k) : midZ O k j = 0 := if_neg h

section
variable {w wr w' : World} {a1 a2 : Option Addr} {c1 c2 n : Nat} {B7 : Nat} {b1 : Option Addr} {d1 : Nat} {b2 : Option Addr} {d2 : Nat} {ap : Option Addr} {cp m : Nat} {R O P : Nat → Int}
end

end Go.Proofs.Ytnpdkpbecmpdbaa
