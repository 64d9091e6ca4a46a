/-
  match: a table whose rows the call itself owns; the reference's Copy.
-/
import Derived.Test.YtnpdkpbecmpdbaaMt
set_option linter.unusedVariables false
set_option linter.unusedSimpArgs false
namespace Go.Proofs.Ytnpdkpbecmpdbaa
open Go.RowKit

theorem rowV_set {n k : Nat} {F F' : Nat → Int} {v : Int} (hv : k < n → v = F' k) (h : ∀ j, j < n → j ≠ k → F j = F' j) : (rowV n F).set k (.int .i64 v) = rowV n F' := by
  refine List.ext_getElem? fun j => ?_
  by_cases hj : j < n
  · rw [rowV_get hj]
    by_cases hjk : k = j
    · subst hjk
      rw [List.getElem?_set_self (by rw [rowV_length]; exact hj), hv hj]
    · rw [List.getElem?_set_ne hjk, rowV_get hj, h j hj (fun e => hjk e.symm)]
  · rw [List.getElem?_eq_none (by rw [List.length_set, rowV_length]; omega), List.getElem?_eq_none (by rw [rowV_length]; omega)]
theorem Own.set {w : World} {B e g c n k : Nat} {F F' : Nat → Int} {v : Int} (h : Own w B e (some ⟨g, 0, none⟩) c (rowV n F)) (hv : k < n → v = F' k) (hF : ∀ j, j < n → j ≠ k → F j = F' j) :
    Own (w.setCell ⟨g, k, none⟩ (.int .i64 v)) B e (some ⟨g, 0, none⟩) c (rowV n F') := by
  have h' := h
  unfold Own at h' ⊢
  rw [rowV_length] at h' ⊢
  have := (World.ownsRow.stored h' k (.int .i64 v)).1
  rwa [rowV_set hv hF] at this

/-- The headers of q rows of K numbers, which may have no cells. -/
def hdrsO (K : Nat) (ad : Nat → Option Addr) (rc : Nat → Nat) (q : Nat) : List Value := (List.range q).map fun r => .slice (ad r) K (rc r)
def updO (ad : Nat → Option Addr) (i : Nat) (a : Option Addr) : Nat → Option Addr := fun r => if r = i then a else ad r
theorem updO_at (ad : Nat → Option Addr) (i : Nat) (a : Option Addr) : updO ad i a i = a := if_pos rfl
theorem updO_ne (ad : Nat → Option Addr) {i r : Nat} (a : Option Addr) (h : r ≠ i) : updO ad i a r = ad r := if_neg h
theorem hdrsO_length (K : Nat) (ad : Nat → Option Addr) (rc : Nat → Nat) (q : Nat) : (hdrsO K ad rc q).length = q := by simp [hdrsO]
theorem hdrsO_get {K : Nat} {ad : Nat → Option Addr} {rc : Nat → Nat} {q r : Nat} (h : r < q) : (hdrsO K ad rc q)[r]? = some (.slice (ad r) K (rc r)) := by simp [hdrsO, h]
theorem hdrsO_snoc (K : Nat) (ad : Nat → Option Addr) (rc : Nat → Nat) (q : Nat) (x : Option Addr) (c : Nat) : hdrsO K ad rc q ++ [.slice x K c] = hdrsO K (updO ad q x) (upd rc q c) (q + 1) := by
  unfold hdrsO
  rw [List.range_succ, List.map_append]
  congr 1
  · refine List.map_congr_left fun r hr => ?_
    have : r ≠ q := by have := List.mem_range.1 hr; omega
    rw [updO_ne _ _ this, upd_ne _ this]
  · simp [upd_at, updO_at]

/-- A table of q rows, all of the call's own (since the world W), each in a block of its own. -/
structure CP (W wr : World) (a : Option Addr) (c q K : Nat) (T : Nat → Nat → Int) (ad : Nat → Option Addr) (rc : Nat → Nat) : Prop where
  mod : Mod NoBlock W wr
  own : Own wr W.heap.size 31 a c (hdrsO K ad rc q)
  rows : ∀ r, r < q → Own wr W.heap.size 3 (ad r) (rc r) (rowV K (T r))
  sepA : ∀ r, r < q → ∀ k, blockOf (ad r) = some k → some k ≠ blockOf a
  sep : ∀ r r', r < q → r' < q → r ≠ r' → ∀ k, blockOf (ad r) = some k → some k ≠ blockOf (ad r')
section
variable {W wr w' : World} {a : Option Addr} {c q K : Nat} {T : Nat → Nat → Int} {ad : Nat → Option Addr} {rc : Nat → Nat}
theorem CP.nil (W : World) (K : Nat) (T : Nat → Nat → Int) : CP W W none 0 0 K T (fun _ => none) (fun _ => 0) :=
  ⟨Mod.refl _ _, Own.nil _ _ _, fun r h => absurd h (Nat.not_lt_zero r), fun r h => absurd h (Nat.not_lt_zero r), fun r _ h => absurd h (Nat.not_lt_zero r)⟩
theorem CP.frame (h : CP W wr a c q K T ad rc) (m : Mod NoBlock wr w') : CP W w' a c q K T ad rc :=
  ⟨h.mod.trans m, h.own.mod m fun _ _ => id, fun r hr => (h.rows r hr).mod m fun _ _ => id, h.sepA, h.sep⟩
theorem CP.drew (h : CP W wr a c q K T ad rc) : CP W wr.drew a c q K T ad rc := h.frame (Mod.refl _ _).drew
theorem CP.congr (h : CP W wr a c q K T ad rc) {T' : Nat → Nat → Int} (hT : ∀ r, r < q → ∀ j, j < K → T r j = T' r j) : CP W wr a c q K T' ad rc :=
  ⟨h.mod, h.own, fun r hr => by rw [← rowV_congr (hT r hr)]; exact h.rows r hr, h.sepA, h.sep⟩
/-- One more row, in a new block. -/
theorem CP.push (h : CP W wr a c q K T ad rc) {w1 : World} {a2 a' : Option Addr} {c2 c' : Nat} {ob : Obj} {T' : Nat → Nat → Int} (hm : Mod NoBlock wr w1) (hr : Own w1 wr.heap.size 3 a2 c2 (rowV K (T' q)))
    (hT : ∀ r, r < q → ∀ j, j < K → T r j = T' r j) (ho : Own w' W.heap.size 31 a' c' (hdrsO K ad rc q ++ [.slice a2 K c2])) (hg : (w1.alloc ob).grownBy w' (blockOf a)) (ha : blockOf a' = blockOf a ∨ blockOf a' = some (w1.alloc ob).heap.size) :
    CP W w' a' c' (q + 1) K T' (updO ad q a2) (upd rc q c2) := by
  have h1 := h.frame hm
  have hb : ∀ k, k < w1.heap.size → some k ≠ blockOf a → w'.heap[k]? = w1.heap[k]? := fun k hk hn => (hg.block k (by simp; omega) hn).trans (Below.heap_alloc w1 _ _ hk)
  have hne : ∀ k, k < w1.heap.size → some k ≠ blockOf a → some k ≠ blockOf a' := fun k hk hn e => by
    rcases ha with ha | ha
    · exact hn (e.trans ha)
    · rw [ha] at e; injection e with e; simp at e; omega
  have hs := hm.size
  have hs2 := h.mod.size
  have hx : ∀ k, blockOf a2 = some k → wr.heap.size ≤ k ∧ k < w1.heap.size ∧ some k ≠ blockOf a := fun k hk => ⟨(hr.lt hk).1, (hr.lt hk).2, fun e => by have := (h.own.lt e.symm).2; have := (hr.lt hk).1; omega⟩
  rw [hdrsO_snoc] at ho
  refine ⟨(h1.mod.alloc ob).grown hg fun k e => .inr (h.own.lt e).1, ho, fun r hrq => ?_, fun r hrq k hk => ?_, fun r r' hrq hrq' hne' k hk e => ?_⟩
  · by_cases e : r = q
    · subst e
      rw [updO_at, upd_at]
      exact (hr.mono (by omega)).same fun k hk => hb k (hx k hk).2.1 (hx k hk).2.2
    · rw [updO_ne _ _ e, upd_ne _ e, ← rowV_congr (hT r (by omega))]
      exact (h1.rows r (by omega)).same fun k hk => hb k ((h1.rows r (by omega)).lt hk).2 (h.sepA r (by omega) k hk)
  · by_cases e : r = q
    · subst e
      rw [updO_at] at hk
      exact hne k (hx k hk).2.1 (hx k hk).2.2
    · rw [updO_ne _ _ e] at hk
      exact hne k ((h1.rows r (by omega)).lt hk).2 (h.sepA r (by omega) k hk)
  · by_cases e1 : r = q
    · subst e1
      rw [updO_at] at hk
      rw [updO_ne _ _ (fun e => hne' e.symm)] at e
      have := ((h.rows r' (by omega)).lt e.symm).2
      have := (hx k hk).1
      omega
    · rw [updO_ne _ _ e1] at hk
      by_cases e2 : r' = q
      · subst e2
        rw [updO_at] at e
        have := ((h.rows r (by omega)).lt hk).2
        have := (hx k e.symm).1
        omega
      · rw [updO_ne _ _ e2] at e
        exact h.sep r r' (by omega) (by omega) hne' k hk e
/-- A number of a row is written. -/
theorem CP.set (h : CP W wr a c q K T ad rc) {r x k : Nat} {y : Int} {T' : Nat → Nat → Int} (hr : r < q) (hx : ad r = some ⟨x, 0, none⟩) (hy : k < K → y = T' r k) (hT : ∀ j, j < K → j ≠ k → T r j = T' r j) (hT2 : ∀ r', r' < q → r' ≠ r → ∀ j, j < K → T r' j = T' r' j) :
    CP W (wr.setCell ⟨x, k, none⟩ (.int .i64 y)) a c q K T' ad rc := by
  have hb : ∀ b, b ≠ x → (wr.setCell ⟨x, k, none⟩ (.int .i64 y)).heap[b]? = wr.heap[b]? := fun b hb => Below.heap_setCell _ _ _ _ hb
  have hox := h.rows r hr
  rw [hx] at hox
  have hlt := hox.lt (k := x) rfl
  refine ⟨h.mod.setCell (p := ⟨x, k, none⟩) (.inr hlt.1) _, h.own.same fun b hbb => hb b fun e => ?_, fun r' hr' => ?_, h.sepA, h.sep⟩
  · subst e
    exact h.sepA r hr b (by rw [hx]; rfl) hbb.symm
  · by_cases e : r' = r
    · subst e
      rw [hx]
      exact hox.set hy hT
    · rw [← rowV_congr (hT2 r' hr' e)]
      exact (h.rows r' hr').same fun b hbb => hb b fun e2 => by
        subst e2
        exact h.sep r' r hr' hr e b hbb (by rw [hx]; rfl)
/-- As a list of lists. -/
def rowsI (q K : Nat) (T : Nat → Nat → Int) : List (List Int) := (List.range q).map fun r => rowI K (T r)
theorem rowsI_length (q K : Nat) (T : Nat → Nat → Int) : (rowsI q K T).length = q := by simp [rowsI]
theorem rowsI_rx {q K r : Nat} {T : Nat → Nat → Int} (h : r < q) : rx (rowsI q K T) r = rowI K (T r) := by simp [rx, rowsI, h]
theorem CP.mixes (h : CP W wr a c q K T ad rc) (hq : q ≤ maxLen) (hK : K ≤ maxLen) : Mixes (fun b => W.heap.size ≤ b) wr a (rowsI q K T) :=
  h.own.mixes ⟨by rw [hdrsO_length, rowsI_length], fun r hr => by
    rw [rowsI_length] at hr
    refine ⟨ad r, rc r, by rw [hdrsO_get hr, rowsI_rx hr, rowI_length], ?_⟩
    have h1 := h.rows r hr
    rw [rowV_map] at h1
    rw [rowsI_rx hr]
    exact h1.ints (fun b hb _ => hb) (by rw [rowI_length]; exact hK)⟩ (fun b hb _ => hb) (by rw [rowsI_length]; exact hq)
/-- A header. -/
theorem CP.hdr (h : CP W wr a c q K T ad rc) {r : Nat} (hr : r < q) : ∃ g, a = some ⟨g, 0, none⟩ ∧ W.heap.size ≤ g ∧ ∀ r, r < q → wr.cell? ⟨g, r, none⟩ = some (.slice (ad r) K (rc r)) := by
  obtain ⟨g, h0, h1, h2, h3, h4⟩ := h.own.head (by intro e; have := congrArg List.length e; rw [hdrsO_length] at this; simp at this; omega)
  exact ⟨g, h0, h1, fun r hr => h3 r _ (hdrsO_get hr)⟩
end

theorem rowV_of_ints (l : List Int) : l.map (Value.int .i64) = rowV l.length (ix l) := by
  refine List.ext_getElem? fun j => ?_
  by_cases hj : j < l.length
  · rw [rowV_get hj, List.getElem?_map, List.getElem?_eq_getElem hj, ix_eq hj]; rfl
  · rw [List.getElem?_eq_none (by simp; omega), List.getElem?_eq_none (by rw [rowV_length]; omega)]
theorem ints_one (l : List Int) : ∀ u ∈ l.map (Value.int .i64), u.oneCell' = true := fun u hu => by
  obtain ⟨x, _, rfl⟩ := List.mem_map.1 hu
  rfl

end Go.Proofs.Ytnpdkpbecmpdbaa
