/-
  camera: what lies in memory while the reference's Next runs.
-/
import Derived.Test.YtgoccfjmghhaoaaCh
import Derived.Laws.OwnMore
set_option linter.unusedVariables false
set_option linter.unusedSimpArgs false
namespace Go.Proofs.Ytgoccfjmghhaoaa
open Go.RowKit

def rowV (n : Nat) (F : Nat → Int) : List Value := (List.range n).map fun j => .int .i64 (F j)
theorem rowV_length (n : Nat) (F : Nat → Int) : (rowV n F).length = n := by simp [rowV]
theorem rowV_get {n j : Nat} {F : Nat → Int} (h : j < n) : (rowV n F)[j]? = some (.int .i64 (F j)) := by simp [rowV, h]
theorem rowV_snoc (n : Nat) (F : Nat → Int) : rowV n F ++ [.int .i64 (F n)] = rowV (n + 1) F := by simp [rowV, List.range_succ]
theorem rowV_set {n k : Nat} {F F' : Nat → Int} {v : Int} (hv : k < n → v = F' k) (h : ∀ j, j < n → j ≠ k → F j = F' j) : (rowV n F).set k (.int .i64 v) = rowV n F' := by
  refine List.ext_getElem? fun j => ?_
  by_cases hj : j < n
  · rw [rowV_get hj]
    by_cases hjk : k = j
    · subst hjk
      rw [List.getElem?_set_self (by rw [rowV_length]; exact hj), hv hj]
    · rw [List.getElem?_set_ne hjk, rowV_get hj, h j hj (fun e => hjk e.symm)]
  · rw [List.getElem?_eq_none (by rw [List.length_set, rowV_length]; omega), List.getElem?_eq_none (by rw [rowV_length]; omega)]
theorem rowV_list (l : List Int) : l.map (Value.int .i64) = rowV l.length (ix l) := by
  refine List.ext_getElem? fun j => ?_
  by_cases hj : j < l.length
  · rw [rowV_get hj, List.getElem?_map, List.getElem?_eq_getElem hj, ix_eq hj]; rfl
  · rw [List.getElem?_eq_none (by simp; omega), List.getElem?_eq_none (by rw [rowV_length]; omega)]
theorem rowV_of {l : List Int} {n : Nat} {F : Nat → Int} (hl : l.length = n) (h : ∀ j, j < n → ix l j = F j) : l.map (Value.int .i64) = rowV n F := by
  subst hl
  rw [rowV_list]
  refine List.ext_getElem? fun j => ?_
  by_cases hj : j < l.length
  · rw [rowV_get hj, rowV_get hj, h j hj]
  · rw [List.getElem?_eq_none (by rw [rowV_length]; omega), List.getElem?_eq_none (by rw [rowV_length]; omega)]
theorem rowV_congr {n : Nat} {F F' : Nat → Int} (h : ∀ j, j < n → F j = F' j) : rowV n F = rowV n F' := by
  refine List.ext_getElem? fun j => ?_
  by_cases hj : j < n
  · rw [rowV_get hj, rowV_get hj, h j hj]
  · rw [List.getElem?_eq_none (by rw [rowV_length]; omega), List.getElem?_eq_none (by rw [rowV_length]; omega)]

theorem Own.cellAt {w : World} {B e g c n j : Nat} {F : Nat → Int} (h : Own w B e (some ⟨g, 0, none⟩) c (rowV n F)) (hj : j < n) : w.cell? ⟨g, j, none⟩ = some (.int .i64 (F j)) ∧ w.frozen? ⟨g, j, none⟩ = false := by
  obtain ⟨g', he, _, _, h1, h2⟩ := h.head (by intro e; have := congrArg List.length e; rw [rowV_length] at this; simp at this; omega)
  simp only [Option.some.injEq, Addr.mk.injEq, and_true] at he
  obtain rfl := he
  exact ⟨h1 j _ (rowV_get hj), h2 j⟩
theorem Own.addr {w : World} {B e c n : Nat} {a : Option Addr} {F : Nat → Int} (h : Own w B e a c (rowV n F)) (hn : 0 < n) : ∃ g, a = some ⟨g, 0, none⟩ ∧ B ≤ g ∧ g < w.heap.size := by
  obtain ⟨g', he, h1, h2, _⟩ := h.head (by intro e; have := congrArg List.length e; rw [rowV_length] at this; simp at this; omega)
  exact ⟨g', he, h1, h2⟩
theorem Own.set {w : World} {B e g c n k : Nat} {F F' : Nat → Int} {v : Int} (h : Own w B e (some ⟨g, 0, none⟩) c (rowV n F)) (hv : k < n → v = F' k) (hF : ∀ j, j < n → j ≠ k → F j = F' j) :
    Own (w.setCell ⟨g, k, none⟩ (.int .i64 v)) B e (some ⟨g, 0, none⟩) c (rowV n F') := by
  have h' := h
  unfold Own at h' ⊢
  rw [rowV_length] at h' ⊢
  have := (World.ownsRow.stored h' k (.int .i64 v)).1
  rwa [rowV_set hv hF] at this

def Apart (a b : Option Addr) : Prop := ∀ k, blockOf a = some k → blockOf b ≠ some k
theorem Apart.symm {a b : Option Addr} (h : Apart a b) : Apart b a := fun k h1 h2 => h k h2 h1

/-- What is owed, once that of the first k outputs is taken over. -/
def midZ (O : Nat → Int) (k j : Nat) : Int := if j < k then O j else 0
theorem midZ_lt {O : Nat → Int} {k j : Nat} (h : j < k) : midZ O k j = O j := if_pos h
theorem midZ_ge {O : Nat → Int} {k j : Nat} (h : ¬ j < k) : midZ O k j = 0 := if_neg h

/-- The reference's Next at work: the boxes of the argument and of the result, the state of the next carry, its rows, the parts. -/
structure NS (w wr : World) (a1 a2 : Option Addr) (c1 c2 n : Nat) (B7 : Nat) (b1 : Option Addr) (d1 : Nat) (b2 : Option Addr) (d2 : Nat) (ap : Option Addr) (cp m : Nat) (R O P : Nat → Int) : Prop where
  mod : Mod NoBlock w wr
  box : wr.rowIs w.heap.size 68 2 (fun i => (#[.slice a1 n c1, .slice a2 n c2] : Array Value).getD i undef)
  res : wr.rowIs (w.heap.size + 1) 68 2 (fun i => (#[.slice none 0 0, .slice none 0 0] : Array Value).getD i undef)
  str : wr.rowIs B7 68 2 (fun i => (#[.slice b1 n d1, .slice b2 n d2] : Array Value).getD i undef)
  rates : Own wr (w.heap.size + 2) 3 b1 d1 (rowV n R)
  owed : Own wr (w.heap.size + 2) 3 b2 d2 (rowV n O)
  parts : Own wr (w.heap.size + 2) 3 ap cp (rowV m P)
  d12 : Apart b1 b2
  d1p : Apart b1 ap
  d2p : Apart b2 ap
  d71 : some B7 ≠ blockOf b1
  d72 : some B7 ≠ blockOf b2
  d7p : some B7 ≠ blockOf ap
  h7 : w.heap.size + 2 ≤ B7

section
variable {w wr w' : World} {a1 a2 : Option Addr} {c1 c2 n : Nat} {B7 : Nat} {b1 : Option Addr} {d1 : Nat} {b2 : Option Addr} {d2 : Nat} {ap : Option Addr} {cp m : Nat} {R O P : Nat → Int}
theorem NS.drewN (h : NS w wr a1 a2 c1 c2 n B7 b1 d1 b2 d2 ap cp m R O P) (k : Nat) : NS w (wr.drewN k) a1 a2 c1 c2 n B7 b1 d1 b2 d2 ap cp m R O P :=
  ⟨h.mod.drewN k, h.box, h.res, h.str, h.rates, h.owed, h.parts, h.d12, h.d1p, h.d2p, h.d71, h.d72, h.d7p, h.h7⟩
theorem NS.drew (h : NS w wr a1 a2 c1 c2 n B7 b1 d1 b2 d2 ap cp m R O P) : NS w wr.drew a1 a2 c1 c2 n B7 b1 d1 b2 d2 ap cp m R O P :=
  ⟨h.mod.drew, h.box, h.res, h.str, h.rates, h.owed, h.parts, h.d12, h.d1p, h.d2p, h.d71, h.d72, h.d7p, h.h7⟩
theorem NS.append (h : NS w wr a1 a2 c1 c2 n B7 b1 d1 b2 d2 ap cp m R O P) {o : Obj} {ap' : Option Addr} {cp' : Nat} (ho : Own w' (w.heap.size + 2) 3 ap' cp' (rowV m P ++ [.int .i64 (P m)]))
    (hg : (wr.alloc o).grownBy w' (blockOf ap)) (ha : blockOf ap' = blockOf ap ∨ blockOf ap' = some (wr.alloc o).heap.size) : NS w w' a1 a2 c1 c2 n B7 b1 d1 b2 d2 ap' cp' (m + 1) R O P := by
  have hb : ∀ k, k < wr.heap.size → some k ≠ blockOf ap → w'.heap[k]? = wr.heap[k]? := fun k hk hn => (hg.block k (by simp; omega) hn).trans (Below.heap_alloc wr _ _ hk)
  have hnew : ∀ k, k < wr.heap.size → some k ≠ blockOf ap → some k ≠ blockOf ap' := fun k hk hn e => by
    rcases ha with ha | ha
    · exact hn (e.trans ha)
    · rw [ha] at e; injection e with e; simp at e; omega
  have h1 : ∀ k, blockOf b1 = some k → k < wr.heap.size := fun k e => (h.rates.lt e).2
  have h2 : ∀ k, blockOf b2 = some k → k < wr.heap.size := fun k e => (h.owed.lt e).2
  exact ⟨(h.mod.alloc o).grown hg fun b e => .inr (by have := (h.parts.lt e).1; omega), h.box.of_block (hb _ h.box.lt (h.parts.away (by omega))), h.res.of_block (hb _ h.res.lt (h.parts.away (by omega))), h.str.of_block (hb _ h.str.lt h.d7p),
    h.rates.same fun k e => hb k (h1 k e) fun e2 => h.d1p k e e2.symm, h.owed.same fun k e => hb k (h2 k e) fun e2 => h.d2p k e e2.symm, by rw [← rowV_snoc]; exact ho, h.d12,
    fun k e e2 => hnew k (h1 k e) (fun e3 => h.d1p k e e3.symm) e2.symm, fun k e e2 => hnew k (h2 k e) (fun e3 => h.d2p k e e3.symm) e2.symm, h.d71, h.d72, hnew _ h.str.lt h.d7p, h.h7⟩
theorem NS.storeO {g : Nat} (h : NS w wr a1 a2 c1 c2 n B7 b1 d1 (some ⟨g, 0, none⟩) d2 ap cp m R O P) {k : Nat} {v : Int} {O' : Nat → Int} (hv : k < n → v = O' k) (hO : ∀ j, j < n → j ≠ k → O j = O' j) (h0 : 0 < n) :
    NS w (wr.setCell ⟨g, k, none⟩ (.int .i64 v)) a1 a2 c1 c2 n B7 b1 d1 (some ⟨g, 0, none⟩) d2 ap cp m R O' P := by
  obtain ⟨g', e, hg, hg2⟩ := h.owed.addr h0
  simp only [Option.some.injEq, Addr.mk.injEq, and_true] at e
  obtain rfl := e
  have ms : Mod (fun b => b = g) wr (wr.setCell ⟨g, k, none⟩ (.int .i64 v)) := (Mod.refl _ wr).set1 k _
  have hb2 : blockOf (some (⟨g, 0, none⟩ : Addr)) = some g := rfl
  exact ⟨h.mod.setCell (p := ⟨g, k, none⟩) (.inr (by show w.heap.size ≤ g; omega)) _, h.box.setOther (by show ¬ _ = g; omega) _, h.res.setOther (by show ¬ _ = g; omega) _,
    h.str.setOther (fun e => h.d72 (by rw [hb2, e])) _, h.rates.mod ms (fun b e e2 => h.d12 b e (by rw [hb2, e2])), h.owed.set hv hO, h.parts.mod ms (fun b e e2 => h.d2p g hb2 (by rw [← e2]; exact e)), h.d12, h.d1p, h.d2p, h.d71, h.d72, h.d7p, h.h7⟩
theorem NS.storeP {g : Nat} (h : NS w wr a1 a2 c1 c2 n B7 b1 d1 b2 d2 (some ⟨g, 0, none⟩) cp m R O P) {k : Nat} {v : Int} {P' : Nat → Int} (hv : k < m → v = P' k) (hP : ∀ j, j < m → j ≠ k → P j = P' j) (h0 : 0 < m) :
    NS w (wr.setCell ⟨g, k, none⟩ (.int .i64 v)) a1 a2 c1 c2 n B7 b1 d1 b2 d2 (some ⟨g, 0, none⟩) cp m R O P' := by
  obtain ⟨g', e, hg, hg2⟩ := h.parts.addr h0
  simp only [Option.some.injEq, Addr.mk.injEq, and_true] at e
  obtain rfl := e
  have ms : Mod (fun b => b = g) wr (wr.setCell ⟨g, k, none⟩ (.int .i64 v)) := (Mod.refl _ wr).set1 k _
  have hb2 : blockOf (some (⟨g, 0, none⟩ : Addr)) = some g := rfl
  exact ⟨h.mod.setCell (p := ⟨g, k, none⟩) (.inr (by show w.heap.size ≤ g; omega)) _, h.box.setOther (by show ¬ _ = g; omega) _, h.res.setOther (by show ¬ _ = g; omega) _,
    h.str.setOther (fun e => h.d7p (by rw [hb2, e])) _, h.rates.mod ms (fun b e e2 => h.d1p b e (by rw [hb2, e2])), h.owed.mod ms (fun b e e2 => h.d2p b e (by rw [hb2, e2])), h.parts.set hv hP, h.d12, h.d1p, h.d2p, h.d71, h.d72, h.d7p, h.h7⟩
theorem NS.congr {O' P' : Nat → Int} (h : NS w wr a1 a2 c1 c2 n B7 b1 d1 b2 d2 ap cp m R O P) (hO : ∀ j, j < n → O j = O' j) (hP : ∀ j, j < m → P j = P' j) : NS w wr a1 a2 c1 c2 n B7 b1 d1 b2 d2 ap cp m R O' P' :=
  ⟨h.mod, h.box, h.res, h.str, h.rates, by rw [← rowV_congr hO]; exact h.owed, by rw [← rowV_congr hP]; exact h.parts, h.d12, h.d1p, h.d2p, h.d71, h.d72, h.d7p, h.h7⟩
end

end Go.Proofs.Ytgoccfjmghhaoaa
