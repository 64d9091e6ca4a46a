/-
  camera: an eye in memory; camera.New.
-/
import Derived.Test.YtnpdkpbecmpdbaaCj
import Derived.Test.YtnpdkpbecmpdbaaVp
set_option linter.unusedVariables false
set_option linter.unusedSimpArgs false
namespace Go.Proofs.Ytnpdkpbecmpdbaa
open Go.RowKit

theorem infoPtrC : (Try.prog.info? 73).map (fun i => (i.zero, i.size, i.bytes)) = some (some (.pointer none), 1, 8) := by kernel_rfl
theorem elemPtrC : Elem1 Try.prog 70 73 8 := Elem1.mk Try.underlying70 infoPtrC rfl

theorem CarryAt.of_block {w w' : World} {g : Nat} {rs os : List Int} (h : CarryAt w g rs os) (e : w'.heap[g]? = w.heap[g]?) : CarryAt w' g rs os := by
  obtain ⟨f, h1, h2⟩ := h
  exact ⟨f, h1.of_block e, h2⟩
theorem CarryAt.lt {w : World} {g : Nat} {rs os : List Int} (h : CarryAt w g rs os) : g < w.heap.size := by
  obtain ⟨f, h1, _⟩ := h
  exact h1.lt
theorem CarryAt.mod {w w' : World} {g : Nat} {rs os : List Int} {D : Nat → Prop} (h : CarryAt w g rs os) (m : Mod D w w') (hd : ¬ D g) : CarryAt w' g rs os := h.of_block (m.block g h.lt hd)

/-- An eye in block p: its row of carries in block q, carry k in block g k; all its blocks lie from lo on, below hi. -/
structure EyeIs (w : World) (lo hi p q cp : Nat) (g : Nat → Nat) (rss oss : List (List Int)) : Prop where
  box : w.rowIs p 72 2 (fun i => (#[.slice (some ⟨q, 0, none⟩) rss.length cp, .int .i64 (rx rss 0).length] : Array Value).getD i undef)
  row : ∀ k, k < rss.length → w.cell? ⟨q, k, none⟩ = some (.pointer (some ⟨g k, 0, none⟩))
  car : ∀ k, k < rss.length → CarryAt w (g k) (rx rss k) (rx oss k) ∧ lo ≤ g k ∧ g k < hi ∧ g k ≠ p ∧ g k ≠ q
  inj : ∀ k k', k < rss.length → k' < rss.length → g k = g k' → k = k'
  pb : lo ≤ p ∧ p < hi
  qb : lo ≤ q ∧ q < hi
def EyeAt (w : World) (lo hi p : Nat) (rss oss : List (List Int)) : Prop := ∃ q cp g, EyeIs w lo hi p q cp g rss oss
theorem EyeIs.mod {w w' : World} {lo hi p q cp : Nat} {g : Nat → Nat} {rss oss : List (List Int)} {D : Nat → Prop} (h : EyeIs w lo hi p q cp g rss oss) (m : Mod D w w') (hd : ∀ b, lo ≤ b → b < hi → ¬ D b) : EyeIs w' lo hi p q cp g rss oss :=
  ⟨h.box.of_block (m.block p h.box.lt (hd p h.pb.1 h.pb.2)), fun k hk => m.cell (h.row k hk) (hd q h.qb.1 h.qb.2), fun k hk => ⟨(h.car k hk).1.mod m (hd _ (h.car k hk).2.1 (h.car k hk).2.2.1), (h.car k hk).2⟩, h.inj, h.pb, h.qb⟩
theorem EyeAt.mod {w w' : World} {lo hi p : Nat} {rss oss : List (List Int)} {D : Nat → Prop} (h : EyeAt w lo hi p rss oss) (m : Mod D w w') (hd : ∀ b, lo ≤ b → b < hi → ¬ D b) : EyeAt w' lo hi p rss oss := by
  obtain ⟨q, cp, g, h⟩ := h
  exact ⟨q, cp, g, h.mod m hd⟩
theorem EyeAt.frame {w w' : World} {lo hi p : Nat} {rss oss : List (List Int)} (h : EyeAt w lo hi p rss oss) (m : Mod NoBlock w w') : EyeAt w' lo hi p rss oss := h.mod m fun _ _ _ => id

def zeros (l : List (List Int)) : List (List Int) := l.map fun r => List.replicate r.length 0
theorem zeros_length (l : List (List Int)) : (zeros l).length = l.length := by simp [zeros]
theorem rx_zeros {l : List (List Int)} {k : Nat} (h : k < l.length) : rx (zeros l) k = List.replicate (rx l k).length 0 := by
  rw [rx_eq (by rw [zeros_length]; exact h), rx_eq h]; simp [zeros]

def ptrV (n : Nat) (g : Nat → Nat) : List Value := (List.range n).map fun j => .pointer (some ⟨g j, 0, none⟩)
theorem ptrV_length (n : Nat) (g : Nat → Nat) : (ptrV n g).length = n := by simp [ptrV]
theorem ptrV_get {n j : Nat} {g : Nat → Nat} (h : j < n) : (ptrV n g)[j]? = some (.pointer (some ⟨g j, 0, none⟩)) := by simp [ptrV, h]
theorem ptrV_snoc (n : Nat) (g : Nat → Nat) (x : Nat) : ptrV n g ++ [.pointer (some ⟨x, 0, none⟩)] = ptrV (n + 1) (fun j => if j = n then x else g j) := by
  refine List.ext_getElem? fun j => ?_
  by_cases hj : j < n
  · rw [List.getElem?_append_left (by rw [ptrV_length]; exact hj), ptrV_get hj, ptrV_get (by omega), if_neg (by omega)]
  · by_cases hjn : j = n
    · subst hjn
      rw [List.getElem?_append_right (by rw [ptrV_length]; omega), ptrV_get (by omega), if_pos rfl, ptrV_length]
      simp
    · rw [List.getElem?_eq_none (by simp [ptrV_length]; omega), List.getElem?_eq_none (by rw [ptrV_length]; omega)]

/-- camera.New at work. -/
structure NewS (w wr : World) (p : Nat) (a : Option Addr) (c k : Nat) (g : Nat → Nat) (cl : Int) (l : List (List Int)) : Prop where
  mod : Mod NoBlock w wr
  pw : w.heap.size ≤ p
  box : wr.rowIs p 72 2 (fun i => (#[.slice a k c, .int .i64 cl] : Array Value).getD i undef)
  row : Own wr (p + 1) 73 a c (ptrV k g)
  car : ∀ j, j < k → CarryAt wr (g j) (rx l j) (List.replicate (rx l j).length 0) ∧ p + 1 ≤ g j ∧ some (g j) ≠ blockOf a
  inj : ∀ j j', j < k → j' < k → g j = g j' → j = j'

theorem NewS.step {w wr w2 w4 : World} {p : Nat} {a a' : Option Addr} {c c' k : Nat} {g : Nat → Nat} {cl : Int} {l : List (List Int)} (h : NewS w wr p a c k g cl l) (m : Mod NoBlock wr w2) (hc : CarryAt w2 wr.heap.size (rx l k) (List.replicate (rx l k).length 0)) {o : Obj}
    (ho : Own w4 (p + 1) 73 a' c' (ptrV k g ++ [.pointer (some ⟨wr.heap.size, 0, none⟩)])) (hg : (w2.alloc o).grownBy w4 (blockOf a)) (ha : blockOf a' = blockOf a ∨ blockOf a' = some (w2.alloc o).heap.size) :
    NewS w (w4.setCell ⟨p, 0, none⟩ (.slice a' (k + 1) c')) p a' c' (k + 1) (fun j => if j = k then wr.heap.size else g j) cl l := by
  have hpw := h.pw
  have hp := h.box.lt
  have hsz := m.size
  have hcl := hc.lt
  have hb : ∀ b, b < w2.heap.size → some b ≠ blockOf a → w4.heap[b]? = w2.heap[b]? := fun b hb hn => (hg.block b (by simp; omega) hn).trans (Below.heap_alloc w2 _ _ hb)
  have hb0 : ∀ b, b < wr.heap.size → some b ≠ blockOf a → w4.heap[b]? = wr.heap[b]? := fun b hb' hn => (hb b (by omega) hn).trans (m.block b hb' id)
  have hnew : ∀ b, b < w2.heap.size → some b ≠ blockOf a → some b ≠ blockOf a' := fun b hb hn e => by
    rcases ha with ha | ha
    · exact hn (e.trans ha)
    · rw [ha] at e; injection e with e; simp at e; omega
  have ms : Mod (fun b => b = p) w4 (w4.setCell ⟨p, 0, none⟩ (.slice a' (k + 1) c')) := (Mod.refl _ w4).set1 _ _
  have hm4 : Mod NoBlock w w4 := ((h.mod.trans m).alloc o).grown hg fun b e => .inr (by have := (h.row.lt e).1; omega)
  have hkn : some wr.heap.size ≠ blockOf a := fun e => by have := (h.row.lt e.symm).2; omega
  refine ⟨hm4.setCell (p := ⟨p, 0, none⟩) (.inr hpw) _, hpw, ?_, ?_, fun j hj => ?_, fun j j' hj hj' e => ?_⟩
  · refine ((h.box.of_block (hb0 p hp (h.row.away (Nat.lt_succ_self p)))).set 0 _).congr fun i hi => ?_
    rcases (by omega : i = 0 ∨ i = 1) with rfl | rfl <;> rfl
  · rw [← ptrV_snoc]
    exact ho.mod ms (fun b e e2 => by have := (ho.lt e).1; omega)
  · show CarryAt _ (if j = k then wr.heap.size else g j) _ _ ∧ p + 1 ≤ (if j = k then wr.heap.size else g j) ∧ some (if j = k then wr.heap.size else g j) ≠ _
    by_cases hjk : j = k
    · subst hjk
      rw [if_pos rfl]
      exact ⟨(hc.of_block (hb _ hcl hkn)).mod ms (by omega), by omega, hnew _ hcl hkn⟩
    · rw [if_neg hjk]
      obtain ⟨h1, h2, h3⟩ := h.car j (by omega)
      have := h1.lt
      exact ⟨(h1.of_block (hb0 _ this h3)).mod ms (by omega), h2, hnew _ (by omega) h3⟩
  · have e : (if j = k then wr.heap.size else g j) = (if j' = k then wr.heap.size else g j') := e
    by_cases hjk : j = k
    · by_cases hjk' : j' = k
      · omega
      · rw [if_pos hjk, if_neg hjk'] at e
        have := (h.car j' (by omega)).1.lt
        omega
    · by_cases hjk' : j' = k
      · rw [if_neg hjk, if_pos hjk'] at e
        have := (h.car j (by omega)).1.lt
        omega
      · rw [if_neg hjk, if_neg hjk'] at e
        exact h.inj j j' (by omega) (by omega) e
theorem NewS.eye {w wr : World} {p : Nat} {a : Option Addr} {c : Nat} {g : Nat → Nat} {l : List (List Int)} (h : NewS w wr p a c l.length g (rx l 0).length l) (h0 : 0 < l.length) : EyeAt wr w.heap.size wr.heap.size p l (zeros l) := by
  obtain ⟨q, e, hq, hq2, hcells, _⟩ := h.row.head (by intro e; have e2 := congrArg List.length e; rw [ptrV_length] at e2; have e3 : l.length = 0 := e2; omega)
  subst e
  have hpw := h.pw
  refine ⟨q, c, g, h.box, fun k hk => hcells k _ (ptrV_get hk), fun k hk => ?_, h.inj, ⟨h.pw, h.box.lt⟩, ⟨by omega, hq2⟩⟩
  obtain ⟨h1, h2, h3⟩ := h.car k hk
  rw [rx_zeros hk]
  exact ⟨h1, by omega, h1.lt, by omega, fun e => h3 (by rw [e]; rfl)⟩

end Go.Proofs.Ytnpdkpbecmpdbaa
