/-
  match: what lies in memory while Solve collects its answer.
-/
import Derived.Test.YtnpdkpbecmpdbaaHy
import Derived.Test.YtnpdkpbecmpdbaaMa
import Derived.Laws.OwnMore
set_option linter.unusedVariables false
set_option linter.unusedSimpArgs false
namespace Go.Proofs.Ytnpdkpbecmpdbaa
open Go.RowKit

theorem Tab.congr {D D' : Nat → Prop} {w : World} {ba oa n K : Nat} {T T' : Nat → Nat → Int} {ra ro rc : Nat → Nat} (h : Tab D w ba oa n K T ra ro rc) (hT : ∀ r, r < n → ∀ j, j < K → T r j = T' r j) (hD : ∀ b, D b → D' b) : Tab D' w ba oa n K T' ra ro rc :=
  ⟨fun h0 => hD _ (h.base h0), h.rows, fun r hr => hD _ (h.own r hr), fun r hr j hj => by rw [← hT r hr j hj]; exact h.cells r hr j hj⟩
theorem Tab.size {D : Nat → Prop} {w : World} {ba oa n K : Nat} {T : Nat → Nat → Int} {ra ro rc : Nat → Nat} (h : Tab D w ba oa n K T ra ro rc) (hK : 0 < n → 0 < K) : Tab (fun b => b < w.heap.size) w ba oa n K T ra ro rc :=
  ⟨fun h0 => World.block_lt_of_cell? w _ (h.rows 0 h0), h.rows, fun r hr => World.block_lt_of_cell? w _ (h.cells r hr 0 (hK (by omega))), h.cells⟩
theorem Tab.both {D : Nat → Prop} {w : World} {ba oa n K : Nat} {T : Nat → Nat → Int} {ra ro rc : Nat → Nat} (h : Tab D w ba oa n K T ra ro rc) (hK : 0 < n → 0 < K) : Tab (fun b => D b ∧ b < w.heap.size) w ba oa n K T ra ro rc :=
  ⟨fun h0 => ⟨h.base h0, (h.size hK).base h0⟩, h.rows, fun r hr => ⟨h.own r hr, (h.size hK).own r hr⟩, h.cells⟩

theorem Tab.blocks {D D' : Nat → Prop} {w w' : World} {ba oa n K : Nat} {T : Nat → Nat → Int} {ra ro rc : Nat → Nat} (h : Tab D w ba oa n K T ra ro rc) (hb : ∀ b, D b → w'.heap[b]? = w.heap[b]? ∧ D' b) : Tab D' w' ba oa n K T ra ro rc :=
  ⟨fun h0 => (hb _ (h.base h0)).2, fun r hr => (World.cell?_of_block (hb _ (h.base (by omega))).1).trans (h.rows r hr), fun r hr => (hb _ (h.own r hr)).2, fun r hr j hj => (World.cell?_of_block (hb _ (h.own r hr)).1).trans (h.cells r hr j hj)⟩

theorem LeastIs.congr {T T' : Nat → Nat → Int} {n K : Nat} {t : Int} (h : LeastIs T n K t) (hT : ∀ r, r < n → ∀ j, j < K → T r j = T' r j) : LeastIs T' n K t := by
  have hc : ∀ a, Asg n K a → cost T n a = cost T' n a := fun a ha => cost_congr fun r hr => hT r hr _ (ha.lt r hr)
  obtain ⟨⟨a, h1, h2⟩, h3⟩ := h
  exact ⟨⟨a, h1, by rw [← hc a h1]; exact h2⟩, fun a ha => by rw [← hc a ha]; exact h3 a ha⟩
theorem oneRow_restr {T : Nat → Nat → Int} {w : Nat → Nat} {i j : Nat} (r q : Nat) : oneRow (restr T w i) i j r q = restr T (upd w i j) (i + 1) r q := by
  unfold oneRow restr
  by_cases e : r = i
  · subst e
    rw [if_neg (show ¬ (r < r ∧ q ≠ w r) from fun h => absurd h.1 (Nat.lt_irrefl r))]
    by_cases hq : q ≠ j
    · rw [if_pos ⟨rfl, hq⟩, if_pos ⟨by omega, by rw [upd_at]; exact hq⟩]
    · rw [if_neg (fun h => hq h.2), if_neg (fun h => hq (by have := h.2; rwa [upd_at] at this))]
  · rw [if_neg (fun h => e h.1), upd_ne _ e]
    by_cases hr : r < i ∧ q ≠ w r
    · rw [if_pos hr, if_pos ⟨by omega, hr.2⟩]
    · rw [if_neg hr, if_neg (fun h => hr ⟨by omega, h.2⟩)]
theorem restr_zero (T : Nat → Nat → Int) (w : Nat → Nat) (r q : Nat) : restr T w 0 r q = T r q := by unfold restr; rw [if_neg (by omega)]

theorem wide_ok {C : List (List Int)} {sk : List Int} {n k : Nat} (h : ProbOk C sk n k) : WideOk (wideT (fun i j => ix (rx C i) j) (ix sk) k) n k := by
  refine ⟨fun i hi j hj => ?_, fun i hi => ?_, fun i hi r hr hri => ?_⟩
  · unfold wideT
    split
    · split
      · simp [far]
      · next hne =>
        have := h.cost i hi j (by omega)
        simp only [far]; simp only at hne; omega
    · split
      · have := h.skip i hi
        simp only [far]; omega
      · simp [far]
  · unfold wideT
    rw [if_neg (by omega), if_pos rfl]
    have := h.skip i hi
    simp only [far]; omega
  · unfold wideT
    rw [if_neg (by omega), if_neg (by omega)]

theorem elemInt1 : Elem1 Try.prog 31 3 8 := Elem1.mk Try.underlying31 infoIntM rfl

def rowV (n : Nat) (F : Nat → Int) : List Value := (List.range n).map fun j => .int .i64 (F j)
theorem rowV_length (n : Nat) (F : Nat → Int) : (rowV n F).length = n := by simp [rowV]
theorem rowV_get {n j : Nat} {F : Nat → Int} (h : j < n) : (rowV n F)[j]? = some (.int .i64 (F j)) := by simp [rowV, h]
theorem rowV_snoc (n : Nat) (F : Nat → Int) : rowV n F ++ [.int .i64 (F n)] = rowV (n + 1) F := by simp [rowV, List.range_succ]
theorem rowV_congr {n : Nat} {F F' : Nat → Int} (h : ∀ j, j < n → F j = F' j) : rowV n F = rowV n F' := by
  refine List.ext_getElem? fun j => ?_
  by_cases hj : j < n
  · rw [rowV_get hj, rowV_get hj, h j hj]
  · rw [List.getElem?_eq_none (by rw [rowV_length]; omega), List.getElem?_eq_none (by rw [rowV_length]; omega)]
/-- The numbers of a row. -/
def rowI (n : Nat) (F : Nat → Int) : List Int := (List.range n).map F
theorem rowI_length (n : Nat) (F : Nat → Int) : (rowI n F).length = n := by simp [rowI]
theorem rowI_ix {n j : Nat} {F : Nat → Int} (h : j < n) : ix (rowI n F) j = F j := by simp [ix, rowI, h]
theorem rowV_map (n : Nat) (F : Nat → Int) : rowV n F = (rowI n F).map (Value.int .i64) := by simp [rowV, rowI]
theorem Own.cellAt {w : World} {B e g c n j : Nat} {F : Nat → Int} (h : Own w B e (some ⟨g, 0, none⟩) c (rowV n F)) (hj : j < n) : w.cell? ⟨g, j, none⟩ = some (.int .i64 (F j)) ∧ w.frozen? ⟨g, j, none⟩ = false := by
  obtain ⟨g', he, _, _, h1, h2⟩ := h.head (by intro e; have := congrArg List.length e; rw [rowV_length] at this; simp at this; omega)
  simp only [Option.some.injEq, Addr.mk.injEq, and_true] at he
  obtain rfl := he
  exact ⟨h1 j _ (rowV_get hj), h2 j⟩
theorem Own.addr {w : World} {B e c n : Nat} {a : Option Addr} {F : Nat → Int} (h : Own w B e a c (rowV n F)) (hn : 0 < n) : ∃ g, a = some ⟨g, 0, none⟩ ∧ B ≤ g ∧ g < w.heap.size := by
  obtain ⟨g', he, h1, h2, _⟩ := h.head (by intro e; have := congrArg List.length e; rw [rowV_length] at this; simp at this; omega)
  exact ⟨g', he, h1, h2⟩

def Apart (a b : Option Addr) : Prop := ∀ k, blockOf a = some k → blockOf b ≠ some k
theorem Apart.symm {a b : Option Addr} (h : Apart a b) : Apart b a := fun k h1 h2 => h k h2 h1
theorem Apart.nil (a : Option Addr) : Apart a none := fun k _ h => by cases h
theorem Apart.nil' (a : Option Addr) : Apart none a := fun k h _ => by cases h

/-- A match under way: its box (block gm = the size of W), columns, potentials. -/
structure MS (W wr : World) (aC : Option Addr) (cC nC : Nat) (t : Int) (aU : Option Addr) (cU nU : Nat) (aV : Option Addr) (cV nV : Nat) (Cf U V : Nat → Int) : Prop where
  mod : Mod NoBlock W wr
  box : wr.rowIs W.heap.size 90 4 (fun i => (#[.slice aC nC cC, .int .i64 t, .slice aU nU cU, .slice aV nV cV] : Array Value).getD i undef)
  cols : Own wr (W.heap.size + 1) 3 aC cC (rowV nC Cf)
  us : Own wr (W.heap.size + 1) 3 aU cU (rowV nU U)
  vs : Own wr (W.heap.size + 1) 3 aV cV (rowV nV V)
  dCU : Apart aC aU
  dCV : Apart aC aV
  dUV : Apart aU aV

/-- One of three rows grows. -/
theorem grow3 {W w0 w' : World} {B e : Nat} {a a' : Option Addr} {c n : Nat} {F : Nat → Int} {o : Obj} (hB : W.heap.size < B) (hm : Mod NoBlock W w0) (h : Own w0 B e a c (rowV n F))
    (hg : (w0.alloc o).grownBy w' (blockOf a)) (ha : blockOf a' = blockOf a ∨ blockOf a' = some (w0.alloc o).heap.size) :
    Mod NoBlock W w' ∧ (∀ b, b < w0.heap.size → b < B → w'.heap[b]? = w0.heap[b]?) ∧ ∀ a2 c2 n2 (F2 : Nat → Int), Apart a a2 → Own w0 B e a2 c2 (rowV n2 F2) → Own w' B e a2 c2 (rowV n2 F2) ∧ Apart a' a2 := by
  have hb : ∀ k, k < w0.heap.size → some k ≠ blockOf a → w'.heap[k]? = w0.heap[k]? := fun k hk hn => (hg.block k (by simp; omega) hn).trans (Below.heap_alloc w0 _ _ hk)
  refine ⟨(hm.alloc o).grown hg fun b e => .inr (by have := (h.lt e).1; omega), fun b hb1 hb2 => hb b hb1 (fun e => by have := (h.lt e.symm).1; omega), fun a2 c2 n2 F2 hap h2 => ⟨h2.same fun k e => hb k (h2.lt e).2 (fun e2 => hap k e2.symm e), fun k e1 e2 => ?_⟩⟩
  rcases ha with ha | ha
  · exact hap k (ha ▸ e1) e2
  · rw [ha] at e1
    injection e1 with e1
    have := (h2.lt e2).2
    simp at e1
    omega

section
variable {W wr w' : World} {aC : Option Addr} {cC nC : Nat} {t : Int} {aU : Option Addr} {cU nU : Nat} {aV : Option Addr} {cV nV : Nat} {Cf U V : Nat → Int}
theorem MS.lt (h : MS W wr aC cC nC t aU cU nU aV cV nV Cf U V) : W.heap.size < wr.heap.size := h.box.lt
theorem MS.drewN (h : MS W wr aC cC nC t aU cU nU aV cV nV Cf U V) (k : Nat) : MS W (wr.drewN k) aC cC nC t aU cU nU aV cV nV Cf U V := ⟨h.mod.drewN k, h.box, h.cols, h.us, h.vs, h.dCU, h.dCV, h.dUV⟩
theorem MS.drew (h : MS W wr aC cC nC t aU cU nU aV cV nV Cf U V) : MS W wr.drew aC cC nC t aU cU nU aV cV nV Cf U V := ⟨h.mod.drew, h.box, h.cols, h.us, h.vs, h.dCU, h.dCV, h.dUV⟩
theorem MS.frame (h : MS W wr aC cC nC t aU cU nU aV cV nV Cf U V) (m : Mod NoBlock wr w') : MS W w' aC cC nC t aU cU nU aV cV nV Cf U V :=
  ⟨h.mod.trans m, h.box.of_block (m.block _ h.box.lt id), h.cols.mod m (fun _ _ => id), h.us.mod m (fun _ _ => id), h.vs.mod m (fun _ _ => id), h.dCU, h.dCV, h.dUV⟩
theorem MS.b0 (h : MS W wr aC cC nC t aU cU nU aV cV nV Cf U V) : wr.cell? ⟨W.heap.size, 0, none⟩ = some (.slice aC nC cC) := h.box.cell (i := 0) (by omega)
theorem MS.b1 (h : MS W wr aC cC nC t aU cU nU aV cV nV Cf U V) : wr.cell? ⟨W.heap.size, 1, none⟩ = some (.int .i64 t) := h.box.cell (i := 1) (by omega)
theorem MS.b2 (h : MS W wr aC cC nC t aU cU nU aV cV nV Cf U V) : wr.cell? ⟨W.heap.size, 2, none⟩ = some (.slice aU nU cU) := h.box.cell (i := 2) (by omega)
theorem MS.b3 (h : MS W wr aC cC nC t aU cU nU aV cV nV Cf U V) : wr.cell? ⟨W.heap.size, 3, none⟩ = some (.slice aV nV cV) := h.box.cell (i := 3) (by omega)

theorem MS.appendU (h : MS W wr aC cC nC t aU cU nU aV cV nV Cf U V) {o : Obj} {a' : Option Addr} {c' : Nat} (ho : Own w' (W.heap.size + 1) 3 a' c' (rowV nU U ++ [.int .i64 (U nU)]))
    (hg : (wr.alloc o).grownBy w' (blockOf aU)) (ha : blockOf a' = blockOf aU ∨ blockOf a' = some (wr.alloc o).heap.size) : MS W (w'.setCell ⟨W.heap.size, 2, none⟩ (.slice a' (nU + 1) c')) aC cC nC t a' c' (nU + 1) aV cV nV Cf U V := by
  obtain ⟨m, hb, h3⟩ := grow3 (by omega) h.mod h.us hg ha
  obtain ⟨hC, dC⟩ := h3 _ _ _ _ h.dCU.symm h.cols
  obtain ⟨hV, dV⟩ := h3 _ _ _ _ h.dUV h.vs
  have ms : Mod (fun b => b = W.heap.size) w' (w'.setCell ⟨W.heap.size, 2, none⟩ (.slice a' (nU + 1) c')) := (Mod.refl _ w').set1 2 _
  rw [rowV_snoc] at ho
  refine ⟨m.setCell (p := ⟨W.heap.size, 2, none⟩) (.inr (Nat.le_refl _)) _, ((h.box.of_block (hb _ h.box.lt (by omega))).set 2 _).congr fun i hi => ?_, hC.mod ms (fun k e e2 => by have := (hC.lt e).1; omega), ho.mod ms (fun k e e2 => by have := (ho.lt e).1; omega), hV.mod ms (fun k e e2 => by have := (hV.lt e).1; omega), dC.symm, h.dCV, dV⟩
  rcases (by omega : i = 0 ∨ i = 1 ∨ i = 2 ∨ i = 3) with rfl | rfl | rfl | rfl <;> rfl
theorem MS.appendV (h : MS W wr aC cC nC t aU cU nU aV cV nV Cf U V) {o : Obj} {a' : Option Addr} {c' : Nat} (ho : Own w' (W.heap.size + 1) 3 a' c' (rowV nV V ++ [.int .i64 (V nV)]))
    (hg : (wr.alloc o).grownBy w' (blockOf aV)) (ha : blockOf a' = blockOf aV ∨ blockOf a' = some (wr.alloc o).heap.size) : MS W (w'.setCell ⟨W.heap.size, 3, none⟩ (.slice a' (nV + 1) c')) aC cC nC t aU cU nU a' c' (nV + 1) Cf U V := by
  obtain ⟨m, hb, h3⟩ := grow3 (by omega) h.mod h.vs hg ha
  obtain ⟨hC, dC⟩ := h3 _ _ _ _ h.dCV.symm h.cols
  obtain ⟨hU, dU⟩ := h3 _ _ _ _ h.dUV.symm h.us
  have ms : Mod (fun b => b = W.heap.size) w' (w'.setCell ⟨W.heap.size, 3, none⟩ (.slice a' (nV + 1) c')) := (Mod.refl _ w').set1 3 _
  rw [rowV_snoc] at ho
  refine ⟨m.setCell (p := ⟨W.heap.size, 3, none⟩) (.inr (Nat.le_refl _)) _, ((h.box.of_block (hb _ h.box.lt (by omega))).set 3 _).congr fun i hi => ?_, hC.mod ms (fun k e e2 => by have := (hC.lt e).1; omega), hU.mod ms (fun k e e2 => by have := (hU.lt e).1; omega), ho.mod ms (fun k e e2 => by have := (ho.lt e).1; omega), h.dCU, dC.symm, dU.symm⟩
  rcases (by omega : i = 0 ∨ i = 1 ∨ i = 2 ∨ i = 3) with rfl | rfl | rfl | rfl <;> rfl
theorem MS.appendC (h : MS W wr aC cC nC t aU cU nU aV cV nV Cf U V) {o : Obj} {a' : Option Addr} {c' : Nat} (ho : Own w' (W.heap.size + 1) 3 a' c' (rowV nC Cf ++ [.int .i64 (Cf nC)]))
    (hg : (wr.alloc o).grownBy w' (blockOf aC)) (ha : blockOf a' = blockOf aC ∨ blockOf a' = some (wr.alloc o).heap.size) : MS W (w'.setCell ⟨W.heap.size, 0, none⟩ (.slice a' (nC + 1) c')) a' c' (nC + 1) t aU cU nU aV cV nV Cf U V ∧
      ∀ b, b < wr.heap.size → b ≠ W.heap.size → some b ≠ blockOf aC → (w'.setCell ⟨W.heap.size, 0, none⟩ (.slice a' (nC + 1) c')).heap[b]? = wr.heap[b]? ∧ some b ≠ blockOf a' := by
  obtain ⟨m, hb, h3⟩ := grow3 (by omega) h.mod h.cols hg ha
  obtain ⟨hU, dU⟩ := h3 _ _ _ _ h.dCU h.us
  obtain ⟨hV, dV⟩ := h3 _ _ _ _ h.dCV h.vs
  have ms : Mod (fun b => b = W.heap.size) w' (w'.setCell ⟨W.heap.size, 0, none⟩ (.slice a' (nC + 1) c')) := (Mod.refl _ w').set1 0 _
  rw [rowV_snoc] at ho
  refine ⟨⟨m.setCell (p := ⟨W.heap.size, 0, none⟩) (.inr (Nat.le_refl _)) _, ((h.box.of_block (hb _ h.box.lt (by omega))).set 0 _).congr fun i hi => ?_, ho.mod ms (fun k e e2 => by have := (ho.lt e).1; omega), hU.mod ms (fun k e e2 => by have := (hU.lt e).1; omega), hV.mod ms (fun k e e2 => by have := (hV.lt e).1; omega), dU, dV, h.dUV⟩, fun b b1 b2 b3 => ⟨?_, fun e => ?_⟩⟩
  · rcases (by omega : i = 0 ∨ i = 1 ∨ i = 2 ∨ i = 3) with rfl | rfl | rfl | rfl <;> rfl
  · rw [ms.block b (by have := hg.size; simp at this; omega) b2]
    exact (hg.block b (by simp; omega) b3).trans (Below.heap_alloc wr _ _ b1)
  · rcases ha with ha | ha
    · exact b3 (e.trans ha)
    · rw [ha] at e; injection e with e; simp at e; omega
theorem MS.keep (h : MS W wr aC cC nC t aU cU nU aV cV nV Cf U V) {a : Option Addr} {c n : Nat} {F : Nat → Int} (hown : Own wr (W.heap.size + 1) 3 a c (rowV n F)) {o : Obj} (hg : (wr.alloc o).grownBy w' (blockOf a)) :
    w'.rowIs W.heap.size 90 4 (fun i => (#[.slice aC nC cC, .int .i64 t, .slice aU nU cU, .slice aV nV cV] : Array Value).getD i undef) :=
  h.box.of_block ((hg.block _ (by have := h.lt; simp; omega) (fun e => by have := (hown.lt e.symm).1; omega)).trans (Below.heap_alloc wr _ _ h.lt))
theorem MS.congrC {Cf' : Nat → Int} (h : MS W wr aC cC nC t aU cU nU aV cV nV Cf U V) (hC : ∀ j, j < nC → Cf j = Cf' j) : MS W wr aC cC nC t aU cU nU aV cV nV Cf' U V := ⟨h.mod, h.box, by rw [← rowV_congr hC]; exact h.cols, h.us, h.vs, h.dCU, h.dCV, h.dUV⟩
end

end Go.Proofs.Ytnpdkpbecmpdbaa
