/-
  contract: the problem of assignment; tables and lists that the call collects.
-/
import Derived.Test.YtnpdkpbecmpdbaaKc
import Derived.Test.YtnpdkpbecmpdbaaKe
import Derived.Test.YtnpdkpbecmpdbaaSb
import Derived.Test.YtnpdkpbecmpdbaaMf
import Derived.Test.YtnpdkpbecmpdbaaMn
set_option linter.unusedVariables false
set_option linter.unusedSimpArgs false
namespace Go.Proofs.Ytnpdkpbecmpdbaa
open Go.RowKit

def costT (g : List (Int × Int)) (l : List Ctr) (bs : List Bal) (i j : Nat) : Int := costB g (cx l i) (bx bs j)
def skipT (l : List Ctr) (i : Nat) : Int := missC (cx l i) 0
def costsL (g : List (Int × Int)) (l : List Ctr) (bs : List Bal) : List (List Int) := rowsI l.length bs.length (costT g l bs)
def skipL (l : List Ctr) : List Int := rowI l.length (skipT l)
theorem costsL_length (g : List (Int × Int)) (l : List Ctr) (bs : List Bal) : (costsL g l bs).length = l.length := rowsI_length _ _ _
theorem skipL_length (l : List Ctr) : (skipL l).length = l.length := rowI_length _ _
/-- The error of an assignment. -/
noncomputable def errA (g : List (Int × Int)) (l : List Ctr) (bs : List Bal) : Int :=
  if chkG g ≠ 0 then chkG g else if chkC l g.length ≠ 0 then chkC l g.length else chkM (costsL g l bs) (skipL l)
/-- What an assignment is. -/
def AsgIs (g : List (Int × Int)) (l : List Ctr) (bs : List Bal) (cols : List Int) (t : Int) : Prop :=
  (errA g l bs ≠ 0 ∧ cols = [] ∧ t = 0) ∨
  (errA g l bs = 0 ∧ ∃ wf, First (tabM (costsL g l bs) (skipL l) (rx (costsL g l bs) 0).length) l.length (rx (costsL g l bs) 0).length t wf ∧ cols = rowI l.length (colZ (rx (costsL g l bs) 0).length wf))
theorem AsgIs.unique {g : List (Int × Int)} {l : List Ctr} {bs : List Bal} {cols cols' : List Int} {t t' : Int} (h : AsgIs g l bs cols t) (h' : AsgIs g l bs cols' t') : cols = cols' ∧ t = t' := by
  rcases h with ⟨e, rfl, rfl⟩ | ⟨e, wf, hF, rfl⟩
  · rcases h' with ⟨_, rfl, rfl⟩ | ⟨e', _⟩
    · exact ⟨rfl, rfl⟩
    · exact absurd e' e
  · rcases h' with ⟨e', _⟩ | ⟨_, wf', hF', rfl⟩
    · exact absurd e e'
    · obtain ⟨h1, h2⟩ := hF.unique hF'
      refine ⟨?_, h1⟩
      unfold rowI
      refine List.map_congr_left fun i hi => ?_
      unfold colZ
      rw [h2 i (List.mem_range.1 hi)]

def AsgRes (g : List (Int × Int)) (l : List Ctr) (bs : List Bal) (w : World) (e : Ending) (w' : World) : Prop :=
  ∃ (aC : Option Addr) (cC : Nat) (cols : List Int) (t : Int), e = .returned (.tuple #[.slice aC cols.length cC, .int .i64 t, .int .i64 (errA g l bs)]) ∧ Mod NoBlock w w' ∧ Ints (fun b => w.heap.size ≤ b) w' aC cols ∧ AsgIs g l bs cols t

theorem own_made (w : World) (K : Nat) (hK : K ≤ maxLen) : Own (w.alloc (.cells (madeCells #[.int .i64 0] K) 3)) w.heap.size 3 (some ⟨w.heap.size, 0, none⟩) K (rowV K fun _ => 0) := by
  have e1 : (madeCells #[.int .i64 0] K).size = K := by simp [madeCells]
  have e2 : (madeCells #[.int .i64 0] K).toList = rowV K fun _ => 0 := by
    refine List.ext_getElem? fun j => ?_
    by_cases hj : j < K
    · rw [rowV_get hj]
      simp [madeCells, hj, Nat.mod_one]
    · rw [List.getElem?_eq_none (by simp [madeCells]; omega), List.getElem?_eq_none (by rw [rowV_length]; omega)]
  have := Own.fresh w w.heap.size 3 (Nat.le_refl _) (madeCells #[.int .i64 0] K) (by rw [e1]; exact hK)
  rw [e1, e2] at this
  exact this

section
variable {W wr w' : World} {a aS : Option Addr} {c cS q qs K : Nat} {T : Nat → Nat → Int} {S : Nat → Int} {ad : Nat → Option Addr} {rc : Nat → Nat}
theorem CP.keepB (h : CP W wr a c q K T ad rc) {X : Option Nat} (hm : Mod NoBlock W w') (hb : ∀ k, k < wr.heap.size → some k ≠ X → w'.heap[k]? = wr.heap[k]?) (h1 : ∀ k, blockOf a = some k → some k ≠ X) (h2 : ∀ r, r < q → ∀ k, blockOf (ad r) = some k → some k ≠ X) :
    CP W w' a c q K T ad rc :=
  ⟨hm, h.own.same fun k hk => hb k (h.own.lt hk).2 (h1 k hk), fun r hr => (h.rows r hr).same fun k hk => hb k ((h.rows r hr).lt hk).2 (h2 r hr k hk), h.sepA, h.sep⟩

/-- A table and a list, both the call's own. -/
structure CPS (W wr : World) (a : Option Addr) (c q K : Nat) (T : Nat → Nat → Int) (ad : Nat → Option Addr) (rc : Nat → Nat) (aS : Option Addr) (cS qs : Nat) (S : Nat → Int) : Prop where
  cp : CP W wr a c q K T ad rc
  sk : Own wr W.heap.size 3 aS cS (rowV qs S)
  sA : ∀ k, blockOf aS = some k → some k ≠ blockOf a
  sR : ∀ r, r < q → ∀ k, blockOf aS = some k → some k ≠ blockOf (ad r)
theorem CPS.nil (W : World) (K : Nat) (T : Nat → Nat → Int) (S : Nat → Int) : CPS W W none 0 0 K T (fun _ => none) (fun _ => 0) none 0 0 S :=
  ⟨CP.nil _ _ _, Own.nil _ _ _, (fun k h => by cases h), fun r h => absurd h (Nat.not_lt_zero r)⟩
theorem CPS.push (h : CPS W wr a c q K T ad rc aS cS qs S) {w1 : World} {a2 a' : Option Addr} {c2 c' : Nat} {ob : Obj} (hm : Mod NoBlock wr w1) (hr : Own w1 wr.heap.size 3 a2 c2 (rowV K (T q)))
    (ho : Own w' W.heap.size 31 a' c' (hdrsO K ad rc q ++ [.slice a2 K c2])) (hg : (w1.alloc ob).grownBy w' (blockOf a)) (ha : blockOf a' = blockOf a ∨ blockOf a' = some (w1.alloc ob).heap.size) :
    CPS W w' a' c' (q + 1) K T (updO ad q a2) (upd rc q c2) aS cS qs S := by
  have hb : ∀ k, k < w1.heap.size → some k ≠ blockOf a → w'.heap[k]? = w1.heap[k]? := fun k hk hn => (hg.block k (by simp; omega) hn).trans (Below.heap_alloc w1 _ _ hk)
  have hs := hm.size
  refine ⟨h.cp.push hm hr (fun _ _ _ _ => rfl) ho hg ha, (h.sk.mod hm fun _ _ => id).same fun k hk => hb k (by have := (h.sk.lt hk).2; omega) (h.sA k hk), fun k hk e => ?_, fun r hrq k hk e => ?_⟩
  · have := (h.sk.lt hk).2
    rcases ha with ha | ha
    · exact h.sA k hk (e.trans ha)
    · rw [ha] at e; injection e with e; simp at e; omega
  · have := (h.sk.lt hk).2
    by_cases e1 : r = q
    · subst e1
      rw [updO_at] at e
      have := (hr.lt e.symm).1
      omega
    · rw [updO_ne _ _ e1] at e
      exact h.sR r (by omega) k hk e
theorem CPS.app (h : CPS W wr a c q K T ad rc aS cS qs S) {o : Obj} {a' : Option Addr} {c' : Nat} {w0 : World} (hm : Mod NoBlock wr w0) (ho : Own w' W.heap.size 3 a' c' (rowV qs S ++ [.int .i64 (S qs)]))
    (hg : (w0.alloc o).grownBy w' (blockOf aS)) (ha : blockOf a' = blockOf aS ∨ blockOf a' = some (w0.alloc o).heap.size) : CPS W w' a c q K T ad rc a' c' (qs + 1) S := by
  have hc := h.cp.frame hm
  have hk0 := h.sk.mod hm fun _ _ => id
  have hb : ∀ k, k < w0.heap.size → some k ≠ blockOf aS → w'.heap[k]? = w0.heap[k]? := fun k hk hn => (hg.block k (by simp; omega) hn).trans (Below.heap_alloc w0 _ _ hk)
  rw [rowV_snoc] at ho
  have hne : ∀ k, k < w0.heap.size → some k ≠ blockOf aS → some k ≠ blockOf a' := fun k hk hn e => by
    rcases ha with ha | ha
    · exact hn (e.trans ha)
    · rw [ha] at e; injection e with e; simp at e; omega
  have hA : ∀ k, blockOf a = some k → some k ≠ blockOf aS := fun k hk e => h.sA k e.symm hk.symm
  have hR : ∀ r, r < q → ∀ k, blockOf (ad r) = some k → some k ≠ blockOf aS := fun r hr k hk e => h.sR r hr k e.symm hk.symm
  refine ⟨hc.keepB ((hc.mod.alloc o).grown hg fun k e => .inr (hk0.lt e).1) hb hA hR, ho, fun k hk e => hne k (hc.own.lt e.symm).2 (hA k e.symm) hk.symm, fun r hr k hk e => hne k ((hc.rows r hr).lt e.symm).2 (hR r hr k e.symm) hk.symm⟩
end

end Go.Proofs.Ytnpdkpbecmpdbaa
