/-
  match: tables that the reference builds by appending.
-/
import Derived.Test.YtnpdkpbecmpdbaaMb
set_option linter.unusedVariables false
set_option linter.unusedSimpArgs false
namespace Go.Proofs.Ytnpdkpbecmpdbaa
open Go.RowKit

theorem elemRows : Elem1 Try.prog 22 31 24 := Elem1.mk Try.underlying22 infoIntsM rfl

/-- The headers of q rows of K numbers. -/
def hdrs (K : Nat) (ra ro rc : Nat → Nat) (q : Nat) : List Value := (List.range q).map fun r => .slice (some ⟨ra r, ro r, none⟩) K (rc r)
theorem hdrs_length (K : Nat) (ra ro rc : Nat → Nat) (q : Nat) : (hdrs K ra ro rc q).length = q := by simp [hdrs]
theorem hdrs_get {K : Nat} {ra ro rc : Nat → Nat} {q r : Nat} (h : r < q) : (hdrs K ra ro rc q)[r]? = some (.slice (some ⟨ra r, ro r, none⟩) K (rc r)) := by simp [hdrs, h]
theorem hdrs_snoc (K : Nat) (ra ro rc : Nat → Nat) (q x o c : Nat) : hdrs K ra ro rc q ++ [.slice (some ⟨x, o, none⟩) K c] = hdrs K (upd ra q x) (upd ro q o) (upd rc q c) (q + 1) := by
  unfold hdrs
  rw [List.range_succ, List.map_append]
  congr 1
  · refine List.map_congr_left fun r hr => ?_
    have : r ≠ q := by have := List.mem_range.1 hr; omega
    rw [upd_ne _ this, upd_ne _ this, upd_ne _ this]
  · simp [upd_at]

/-- A table of q rows so far, collected in a slice of the call's own (since the world W). -/
structure GT (D : Nat → Prop) (W wr : World) (a : Option Addr) (c q K : Nat) (T : Nat → Nat → Int) (ra ro rc : Nat → Nat) : Prop where
  mod : Mod NoBlock W wr
  own : Own wr W.heap.size 31 a c (hdrs K ra ro rc q)
  ne : ∀ r, r < q → some (ra r) ≠ blockOf a
  from' : ∀ r, r < q → D (ra r) ∨ W.heap.size ≤ ra r
  lt : ∀ r, r < q → ra r < wr.heap.size
  cells : ∀ r, r < q → ∀ j, j < K → wr.cell? ⟨ra r, ro r + j, none⟩ = some (.int .i64 (T r j))

section
variable {D : Nat → Prop} {W wr w' : World} {a : Option Addr} {c q K : Nat} {T : Nat → Nat → Int} {ra ro rc : Nat → Nat}

theorem GT.nil (D : Nat → Prop) (W : World) (K : Nat) (T : Nat → Nat → Int) : GT D W W none 0 0 K T (fun _ => 0) (fun _ => 0) (fun _ => 0) :=
  ⟨Mod.refl _ _, Own.nil _ _ _, fun r h => absurd h (Nat.not_lt_zero r), fun r h => absurd h (Nat.not_lt_zero r), fun r h => absurd h (Nat.not_lt_zero r), fun r h => absurd h (Nat.not_lt_zero r)⟩
theorem GT.frame (h : GT D W wr a c q K T ra ro rc) (m : Mod NoBlock wr w') : GT D W w' a c q K T ra ro rc :=
  ⟨h.mod.trans m, h.own.mod m fun _ _ => id, h.ne, h.from', fun r hr => m.size_lt (h.lt r hr), fun r hr j hj => m.cell (h.cells r hr j hj) id⟩
theorem GT.drew (h : GT D W wr a c q K T ra ro rc) : GT D W wr.drew a c q K T ra ro rc := h.frame (Mod.refl _ _).drew
/-- Only another block has turned. -/
theorem GT.keep (h : GT D W wr a c q K T ra ro rc) {x : Option Nat} (hm : Mod NoBlock W w') (hs : wr.heap.size ≤ w'.heap.size) (hb : ∀ k, k < wr.heap.size → some k ≠ x → w'.heap[k]? = wr.heap[k]?)
    (h1 : ∀ k, blockOf a = some k → some k ≠ x) (h2 : ∀ r, r < q → some (ra r) ≠ x) : GT D W w' a c q K T ra ro rc :=
  ⟨hm, h.own.same fun k hk => hb k (h.own.lt hk).2 (h1 k hk), h.ne, h.from', fun r hr => Nat.lt_of_lt_of_le (h.lt r hr) hs,
    fun r hr j hj => (World.cell?_of_block (a := ⟨ra r, ro r + j, none⟩) (hb (ra r) (h.lt r hr) (h2 r hr))).trans (h.cells r hr j hj)⟩
/-- One more row, whose cells lie elsewhere. -/
theorem GT.push (h : GT D W wr a c q K T ra ro rc) {x o cx : Nat} {ob : Obj} {a' : Option Addr} {c' : Nat} {T' : Nat → Nat → Int} (hx : some x ≠ blockOf a) (hD : D x ∨ W.heap.size ≤ x) (hlt : x < wr.heap.size)
    (hc : ∀ j, j < K → wr.cell? ⟨x, o + j, none⟩ = some (.int .i64 (T' q j))) (hT : ∀ r, r < q → ∀ j, j < K → T r j = T' r j)
    (ho : Own w' W.heap.size 31 a' c' (hdrs K ra ro rc q ++ [.slice (some ⟨x, o, none⟩) K cx])) (hg : (wr.alloc ob).grownBy w' (blockOf a)) (ha : blockOf a' = blockOf a ∨ blockOf a' = some (wr.alloc ob).heap.size) :
    GT D W w' a' c' (q + 1) K T' (upd ra q x) (upd ro q o) (upd rc q cx) := by
  have hb : ∀ k, k < wr.heap.size → some k ≠ blockOf a → w'.heap[k]? = wr.heap[k]? := fun k hk hn => (hg.block k (by simp; omega) hn).trans (Below.heap_alloc wr _ _ hk)
  have hsz : wr.heap.size + 1 ≤ w'.heap.size := by have := hg.size; simpa using this
  have hne : ∀ k, k < wr.heap.size → some k ≠ blockOf a → some k ≠ blockOf a' := fun k hk hn e => by
    rcases ha with ha | ha
    · exact hn (e.trans ha)
    · rw [ha] at e; injection e with e; simp at e; omega
  rw [hdrs_snoc] at ho
  refine ⟨(h.mod.alloc ob).grown hg fun k e => .inr (h.own.lt e).1, ho, fun r hr => ?_, fun r hr => ?_, fun r hr => ?_, fun r hr j hj => ?_⟩
  all_goals by_cases e : r = q
  · subst e; rw [upd_at]; exact hne x hlt hx
  · rw [upd_ne _ e]; exact hne _ (h.lt r (by omega)) (h.ne r (by omega))
  · subst e; rw [upd_at]; exact hD
  · rw [upd_ne _ e]; exact h.from' r (by omega)
  · subst e; rw [upd_at]; omega
  · rw [upd_ne _ e]; have := h.lt r (by omega); omega
  · subst e; rw [upd_at, upd_at]; exact (World.cell?_of_block (a := ⟨x, o + j, none⟩) (hb x hlt hx)).trans (hc j hj)
  · rw [upd_ne _ e, upd_ne _ e, ← hT r (by omega) j hj]
    exact (World.cell?_of_block (a := ⟨ra r, ro r + j, none⟩) (hb (ra r) (h.lt r (by omega)) (h.ne r (by omega)))).trans (h.cells r (by omega) j hj)
theorem GT.tab (h : GT D W wr a c q K T ra ro rc) (h0 : 0 < q) : ∃ g, a = some ⟨g, 0, none⟩ ∧ Tab (fun b => D b ∨ W.heap.size ≤ b) wr g 0 q K T ra ro rc := by
  obtain ⟨g, rfl, h1, h2, h3, h4⟩ := h.own.head (by intro e; have := congrArg List.length e; rw [hdrs_length] at this; simp at this; omega)
  exact ⟨g, rfl, fun _ => .inr h1, fun r hr => by rw [Nat.zero_add]; exact h3 r _ (hdrs_get hr), h.from', h.cells⟩
theorem GT.congr (h : GT D W wr a c q K T ra ro rc) {T' : Nat → Nat → Int} (hT : ∀ r, r < q → ∀ j, j < K → T r j = T' r j) : GT D W wr a c q K T' ra ro rc :=
  ⟨h.mod, h.own, h.ne, h.from', h.lt, fun r hr j hj => by rw [← hT r hr j hj]; exact h.cells r hr j hj⟩
end

/-- The row that comes next, under way: j numbers so far, in a slice of the call's own. -/
structure GTX (D : Nat → Prop) (W wr : World) (a : Option Addr) (c q K : Nat) (T : Nat → Nat → Int) (ra ro rc : Nat → Nat) (a2 : Option Addr) (c2 j : Nat) (F : Nat → Int) : Prop where
  gt : GT D W wr a c q K T ra ro rc
  row : Own wr W.heap.size 3 a2 c2 (rowV j F)
  sep : ∀ k, blockOf a = some k → some k ≠ blockOf a2
  sep2 : ∀ r, r < q → some (ra r) ≠ blockOf a2
section
variable {D : Nat → Prop} {W wr w' : World} {a a2 : Option Addr} {c q K c2 j : Nat} {T : Nat → Nat → Int} {ra ro rc : Nat → Nat} {F : Nat → Int}
theorem GT.start (h : GT D W wr a c q K T ra ro rc) (F : Nat → Int) : GTX D W wr a c q K T ra ro rc none 0 0 F := ⟨h, Own.nil _ _ _, (fun k _ e => by cases e), (fun r _ e => by cases e)⟩
theorem GTX.append (h : GTX D W wr a c q K T ra ro rc a2 c2 j F) {o : Obj} {a' : Option Addr} {c' : Nat} (ho : Own w' W.heap.size 3 a' c' (rowV j F ++ [.int .i64 (F j)]))
    (hg : (wr.alloc o).grownBy w' (blockOf a2)) (ha : blockOf a' = blockOf a2 ∨ blockOf a' = some (wr.alloc o).heap.size) : GTX D W w' a c q K T ra ro rc a' c' (j + 1) F := by
  have hb : ∀ k, k < wr.heap.size → some k ≠ blockOf a2 → w'.heap[k]? = wr.heap[k]? := fun k hk hn => (hg.block k (by simp; omega) hn).trans (Below.heap_alloc wr _ _ hk)
  have hsz : wr.heap.size + 1 ≤ w'.heap.size := by have := hg.size; simpa using this
  have hne : ∀ k, k < wr.heap.size → some k ≠ blockOf a2 → some k ≠ blockOf a' := fun k hk hn e => by
    rcases ha with ha | ha
    · exact hn (e.trans ha)
    · rw [ha] at e; injection e with e; simp at e; omega
  rw [rowV_snoc] at ho
  exact ⟨h.gt.keep ((h.gt.mod.alloc o).grown hg fun k e => .inr (h.row.lt e).1) (by omega) hb h.sep h.sep2, ho, fun k hk => hne k (h.gt.own.lt hk).2 (h.sep k hk), fun r hr => hne _ (h.gt.lt r hr) (h.sep2 r hr)⟩
/-- The row is whole: its header. -/
theorem GTX.addr (h : GTX D W wr a c q K T ra ro rc a2 c2 j F) (hj : 0 < j) : ∃ x, a2 = some ⟨x, 0, none⟩ := by
  obtain ⟨g, h1, _⟩ := h.row.addr hj
  exact ⟨g, h1⟩
theorem GTX.done {x : Nat} (h : GTX D W wr a c q K T ra ro rc (some ⟨x, 0, none⟩) c2 K F) (h0 : 0 < K) {ob : Obj} {a' : Option Addr} {c' : Nat} {T' : Nat → Nat → Int} (hF : ∀ j, j < K → F j = T' q j) (hT : ∀ r, r < q → ∀ j, j < K → T r j = T' r j)
    (ho : Own w' W.heap.size 31 a' c' (hdrs K ra ro rc q ++ [.slice (some ⟨x, 0, none⟩) K c2])) (hg : (wr.alloc ob).grownBy w' (blockOf a)) (ha : blockOf a' = blockOf a ∨ blockOf a' = some (wr.alloc ob).heap.size) :
    GT D W w' a' c' (q + 1) K T' (upd ra q x) (upd ro q 0) (upd rc q c2) := by
  obtain ⟨h1, h2⟩ := h.row.lt (k := x) rfl
  exact h.gt.push (fun e => h.sep x e.symm rfl) (.inr h1) h2 (fun j hj => by rw [Nat.zero_add, ← hF j hj]; exact (h.row.cellAt hj).1) hT ho hg ha
end

/-- A row of K numbers in a block of its own, written in place. -/
structure GTF (D : Nat → Prop) (W wr : World) (a : Option Addr) (c q K : Nat) (T : Nat → Nat → Int) (ra ro rc : Nat → Nat) (x : Nat) (F : Nat → Int) : Prop where
  gt : GT D W wr a c q K T ra ro rc
  row : wr.rowIs x 3 K (fun j => .int .i64 (F j))
  new : W.heap.size ≤ x
  sep : some x ≠ blockOf a
  sep2 : ∀ r, r < q → ra r ≠ x
section
variable {D : Nat → Prop} {W wr w' : World} {a : Option Addr} {c q K x : Nat} {T : Nat → Nat → Int} {ra ro rc : Nat → Nat} {F : Nat → Int}
theorem GT.fresh (h : GT D W wr a c q K T ra ro rc) : GTF D W (wr.alloc (.cells (madeCells #[.int .i64 0] K) 3)) a c q K T ra ro rc wr.heap.size (fun _ => 0) :=
  ⟨h.frame ((Mod.refl _ _).alloc _), World.rowIs_made wr (.int .i64 0) K 3, h.mod.size, fun e => by have := (h.own.lt e.symm).2; omega, fun r hr e => by have := h.lt r hr; omega⟩
theorem GTF.set (h : GTF D W wr a c q K T ra ro rc x F) {k : Nat} {y : Int} {F' : Nat → Int} (hx : k < K → y = F' k) (hf : ∀ j, j < K → j ≠ k → F j = F' j) : GTF D W (wr.setCell ⟨x, k, none⟩ (.int .i64 y)) a c q K T ra ro rc x F' :=
  ⟨h.gt.keep (x := some x) (h.gt.mod.setCell (.inr h.new) _) (by simp [World.setCell]) (fun k hk hn => Below.heap_setCell _ _ _ _ (fun e => hn (by rw [e]))) (fun k hk e => h.sep (by rw [← e]; exact hk.symm)) (fun r hr e => h.sep2 r hr (Option.some_inj.1 e)),
    set_row h.row (fun hk => by rw [hx hk]) (fun j hj e => by rw [hf j hj e]), h.new, h.sep, h.sep2⟩
theorem GTF.at (h : GTF D W wr a c q K T ra ro rc x F) {k : Nat} (hk : k < K) : wr.cell? ⟨x, k, none⟩ = some (.int .i64 (F k)) := h.row.cell (i := k) hk
theorem GTF.congr (h : GTF D W wr a c q K T ra ro rc x F) {F' : Nat → Int} (hf : ∀ j, j < K → F j = F' j) : GTF D W wr a c q K T ra ro rc x F' := ⟨h.gt, h.row.congr (fun j hj => by rw [hf j hj]), h.new, h.sep, h.sep2⟩
theorem GTF.drew (h : GTF D W wr a c q K T ra ro rc x F) : GTF D W wr.drew a c q K T ra ro rc x F := ⟨h.gt.drew, h.row, h.new, h.sep, h.sep2⟩
theorem GTF.done (h : GTF D W wr a c q K T ra ro rc x F) {cx : Nat} {ob : Obj} {a' : Option Addr} {c' : Nat} {T' : Nat → Nat → Int} (hF : ∀ j, j < K → F j = T' q j) (hT : ∀ r, r < q → ∀ j, j < K → T r j = T' r j)
    (ho : Own w' W.heap.size 31 a' c' (hdrs K ra ro rc q ++ [.slice (some ⟨x, 0, none⟩) K cx])) (hg : (wr.alloc ob).grownBy w' (blockOf a)) (ha : blockOf a' = blockOf a ∨ blockOf a' = some (wr.alloc ob).heap.size) :
    GT D W w' a' c' (q + 1) K T' (upd ra q x) (upd ro q 0) (upd rc q cx) :=
  h.gt.push h.sep (.inr h.new) h.row.lt (fun j hj => by rw [Nat.zero_add, ← hF j hj]; exact h.at hj) hT ho hg ha
end

end Go.Proofs.Ytnpdkpbecmpdbaa
