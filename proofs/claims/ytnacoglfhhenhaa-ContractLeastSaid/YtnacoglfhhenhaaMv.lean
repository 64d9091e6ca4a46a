/-
  match: the reference's Solve.
-/
import Derived.Test.YtnacoglfhhenhaaMu
import Derived.Test.YtnacoglfhhenhaaMc
import Derived.Test.YtnacoglfhhenhaaHx
import Derived.Test.YtnacoglfhhenhaaMf
set_option linter.unusedVariables false
set_option linter.unusedSimpArgs false
namespace Go.Proofs.Ytnacoglfhhenhaa
open Go.RowKit

/-- A match under way: its box (block = the size of W) and its columns. -/
structure MR (W wr : World) (aC : Option Addr) (cC nC : Nat) (t : Int) (aU : Option Addr) (nU cU : Nat) (aV : Option Addr) (nV cV : Nat) (Cf : Nat → Int) : Prop where
  mod : Mod NoBlock W wr
  box : wr.rowIs W.heap.size 61 4 (fun i => (#[.slice aC nC cC, .int .i64 t, .slice aU nU cU, .slice aV nV cV] : Array Value).getD i undef)
  cols : Own wr (W.heap.size + 1) 3 aC cC (rowV nC Cf)
section
variable {W wr w' : World} {aC : Option Addr} {cC nC : Nat} {t : Int} {aU : Option Addr} {nU cU : Nat} {aV : Option Addr} {nV cV : Nat} {Cf : Nat → Int}
theorem MR.lt (h : MR W wr aC cC nC t aU nU cU aV nV cV Cf) : W.heap.size < wr.heap.size := h.box.lt
theorem MR.drew (h : MR W wr aC cC nC t aU nU cU aV nV cV Cf) : MR W wr.drew aC cC nC t aU nU cU aV nV cV Cf := ⟨h.mod.drew, h.box, h.cols⟩
theorem MR.frame (h : MR W wr aC cC nC t aU nU cU aV nV cV Cf) (m : Mod NoBlock wr w') : MR W w' aC cC nC t aU nU cU aV nV cV Cf :=
  ⟨h.mod.trans m, h.box.of_block (m.block _ h.box.lt id), h.cols.mod m (fun _ _ => id)⟩
theorem MR.b0 (h : MR W wr aC cC nC t aU nU cU aV nV cV Cf) : wr.cell? ⟨W.heap.size, 0, none⟩ = some (.slice aC nC cC) := h.box.cell (i := 0) (by omega)
theorem MR.b1 (h : MR W wr aC cC nC t aU nU cU aV nV cV Cf) : wr.cell? ⟨W.heap.size, 1, none⟩ = some (.int .i64 t) := h.box.cell (i := 1) (by omega)
theorem MR.b2 (h : MR W wr aC cC nC t aU nU cU aV nV cV Cf) : wr.cell? ⟨W.heap.size, 2, none⟩ = some (.slice aU nU cU) := h.box.cell (i := 2) (by omega)
theorem MR.b3 (h : MR W wr aC cC nC t aU nU cU aV nV cV Cf) : wr.cell? ⟨W.heap.size, 3, none⟩ = some (.slice aV nV cV) := h.box.cell (i := 3) (by omega)
theorem MR.congrC (h : MR W wr aC cC nC t aU nU cU aV nV cV Cf) {Cf' : Nat → Int} (hC : ∀ j, j < nC → Cf j = Cf' j) : MR W wr aC cC nC t aU nU cU aV nV cV Cf' := ⟨h.mod, h.box, by rw [← rowV_congr hC]; exact h.cols⟩
theorem MR.keep (h : MR W wr aC cC nC t aU nU cU aV nV cV Cf) {o : Obj} (hg : (wr.alloc o).grownBy w' (blockOf aC)) :
    w'.rowIs W.heap.size 61 4 (fun i => (#[.slice aC nC cC, .int .i64 t, .slice aU nU cU, .slice aV nV cV] : Array Value).getD i undef) :=
  h.box.of_block ((hg.block _ (by have := h.lt; simp; omega) (fun e => by have := (h.cols.lt e.symm).1; omega)).trans (Below.heap_alloc wr _ _ h.lt))
theorem MR.append (h : MR W wr aC cC nC t aU nU cU aV nV cV Cf) {o : Obj} {a' : Option Addr} {c' : Nat} (ho : Own w' (W.heap.size + 1) 3 a' c' (rowV nC Cf ++ [.int .i64 (Cf nC)]))
    (hg : (wr.alloc o).grownBy w' (blockOf aC)) (ha : blockOf a' = blockOf aC ∨ blockOf a' = some (wr.alloc o).heap.size) : MR W (w'.setCell ⟨W.heap.size, 0, none⟩ (.slice a' (nC + 1) c')) a' c' (nC + 1) t aU nU cU aV nV cV Cf ∧
      ∀ b, b < wr.heap.size → b ≠ W.heap.size → some b ≠ blockOf aC → (w'.setCell ⟨W.heap.size, 0, none⟩ (.slice a' (nC + 1) c')).heap[b]? = wr.heap[b]? ∧ some b ≠ blockOf a' := by
  obtain ⟨m, hb, _⟩ := grow3 (by omega) h.mod h.cols hg ha
  have ms : Mod (fun b => b = W.heap.size) w' (w'.setCell ⟨W.heap.size, 0, none⟩ (.slice a' (nC + 1) c')) := (Mod.refl _ w').set1 0 _
  rw [rowV_snoc] at ho
  refine ⟨⟨m.setCell (p := ⟨W.heap.size, 0, none⟩) (.inr (Nat.le_refl _)) _, ((h.box.of_block (hb _ h.box.lt (by omega))).set 0 _).congr fun i hi => ?_, ho.mod ms (fun k e e2 => by have := (ho.lt e).1; omega)⟩, fun b b1 b2 b3 => ⟨?_, fun e => ?_⟩⟩
  · rcases (by omega : i = 0 ∨ i = 1 ∨ i = 2 ∨ i = 3) with rfl | rfl | rfl | rfl <;> rfl
  · rw [ms.block b (by have := hg.size; simp at this; omega) b2]
    exact (hg.block b (by simp; omega) b3).trans (Below.heap_alloc wr _ _ b1)
  · rcases ha with ha | ha
    · exact b3 (e.trans ha)
    · rw [ha] at e; injection e with e; simp at e; omega
end

def RSolveRes (C : List (List Int)) (sk : List Int) (n k : Nat) (w : World) (e : Ending) (w' : World) : Prop :=
  ∃ (t : Int) (wf : Nat → Nat) (aC : Option Addr) (cC : Nat) (aU : Option Addr) (nU cU : Nat) (aV : Option Addr) (nV cV : Nat),
    e = .returned (.tuple #[.agg #[.slice aC n cC, .int .i64 t, .slice aU nU cU, .slice aV nV cV], .int .i64 0]) ∧ Mod NoBlock w w' ∧ First (tabM C sk k) n k t wf ∧
    Ints (fun b => w.heap.size ≤ b) w' aC (rowI n (colZ k wf))

/-- The table of a round of the outer loop. -/
def RTab (W wr : World) (aC : Option Addr) (n K : Nat) (T : Nat → Nat → Int) (g : Nat) : Prop :=
  ∃ ra ro rc, Tab (fun b => b < wr.heap.size ∧ b ≠ W.heap.size ∧ some b ≠ blockOf aC) wr g 0 n K T ra ro rc
theorem RTab.frame {W wr w' : World} {aC : Option Addr} {n K : Nat} {T : Nat → Nat → Int} {g : Nat} (h : RTab W wr aC n K T g) (m : Mod NoBlock wr w') : RTab W w' aC n K T g := by
  obtain ⟨ra, ro, rc, h⟩ := h
  exact ⟨ra, ro, rc, (h.frame m (fun _ _ => id)).congr (fun _ _ _ _ => rfl) fun b hb => ⟨Nat.lt_of_lt_of_le hb.1 m.size, hb.2⟩⟩

set_option maxRecDepth 100000 in
set_option maxHeartbeats 6400000 in
theorem refSolve_bad {D E : Nat → Prop} {w : World} {a b : Option Addr} {c d : Nat} {C : List (List Int)} {sk : List Int} (h : Mixes D w a C) (hs : Ints E w b sk) (hbad : chkM C sk ≠ 0) :
    Calls Try.prog 36 #[.slice a C.length c, .slice b sk.length d] w fun e w' => e = .returned (.tuple #[.agg #[.slice none 0 0, .int .i64 0, .slice none 0 0, .slice none 0 0], .int .i64 (chkM C sk)]) ∧ Mod NoBlock w w' := by
  have m0 := (Mod.refl NoBlock w).alloc (.cells #[.slice none 0 0, .int .i64 0, .slice none 0 0, .slice none 0 0] 61)
  have hb0 := rowIs_new w #[.slice none 0 0, .int .i64 0, .slice none 0 0, .slice none 0 0] 61
  have Hb0 := Lib.hid hb0
  have M0 := Lib.hid m0
  have HC := Lib.hid (h.frame m0)
  have HS := Lib.hid (hs.frame m0)
  have hbd : (chkM C sk != 0) = true := bne_iff_ne.2 hbad
  clear h hs hbad m0 hb0
  go_enter Try.func36, Try.ntmps36
  go_upto_region 1 with fail
  generalize w.alloc (.cells #[.slice none 0 0, .int .i64 0, .slice none 0 0, .slice none 0 0] 61) = w0 at HC HS M0 Hb0 ⊢
  go_wp2_with fail
  refine (refCheck_any (c := c) (d := d) HC.out HS.out).mono ?_
  rintro e w1 ⟨rfl, hd⟩
  have md := (Mod.refl NoBlock w0).drawn hd
  have Hb1 := Lib.hid (Hb0.out.of_block (md.block _ Hb0.out.lt id))
  have M1 := Lib.hid (M0.out.trans md)
  clear hd md Hb0 M0
  have f0 := Hb1.out.frozen 0
  have f1 := Hb1.out.frozen 1
  have f2 := Hb1.out.frozen 2
  have f3 := Hb1.out.frozen 3
  have c0 : w1.cell? ⟨w.heap.size, 0, none⟩ = some (.slice none 0 0) := Hb1.out.cell (i := 0) (by decide)
  have c1 : w1.cell? ⟨w.heap.size, 1, none⟩ = some (.int .i64 0) := Hb1.out.cell (i := 1) (by decide)
  have c2 : w1.cell? ⟨w.heap.size, 2, none⟩ = some (.slice none 0 0) := Hb1.out.cell (i := 2) (by decide)
  have c3 : w1.cell? ⟨w.heap.size, 3, none⟩ = some (.slice none 0 0) := Hb1.out.cell (i := 3) (by decide)
  go_wp2_with fail
  have hr := put4 Hb1.out (.slice none 0 0) (.int .i64 0) (.slice none 0 0) (.slice none 0 0)
  have hm := mod4 M1.out (S := w.heap.size) (.inr (Nat.le_refl _)) (.slice none 0 0) (.int .i64 0) (.slice none 0 0) (.slice none 0 0)
  generalize ((((w1.setCell ⟨w.heap.size, 0, none⟩ (.slice none 0 0)).setCell ⟨w.heap.size, 1, none⟩ (.int .i64 0)).setCell ⟨w.heap.size, 2, none⟩ (.slice none 0 0)).setCell ⟨w.heap.size, 3, none⟩ (.slice none 0 0)) = w2 at hr hm ⊢
  have t0 : w2.cell? ⟨w.heap.size, 0, none⟩ = some (.slice none 0 0) := hr.cell (i := 0) (by decide)
  have t1 : w2.cell? ⟨w.heap.size, 1, none⟩ = some (.int .i64 0) := hr.cell (i := 1) (by decide)
  have t2 : w2.cell? ⟨w.heap.size, 2, none⟩ = some (.slice none 0 0) := hr.cell (i := 2) (by decide)
  have t3 : w2.cell? ⟨w.heap.size, 3, none⟩ = some (.slice none 0 0) := hr.cell (i := 3) (by decide)
  refine bodyPost_ret (v := .tuple #[.agg #[.slice none 0 0, .int .i64 0, .slice none 0 0, .slice none 0 0], .int .i64 (chkM C sk)]) (by simp [results, Try.results36, go_sem, t0, t1, t2, t3]) rfl ⟨rfl, hm⟩

end Go.Proofs.Ytnacoglfhhenhaa
