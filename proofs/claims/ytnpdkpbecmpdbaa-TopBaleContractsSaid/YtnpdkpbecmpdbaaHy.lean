/-
  match: tables of the call's own.
-/
import Derived.Test.YtnpdkpbecmpdbaaHs
set_option linter.unusedVariables false
set_option linter.unusedSimpArgs false
namespace Go.Proofs.Ytnpdkpbecmpdbaa
open Go.RowKit

/-- A slice of rows (block g, room for M), of which those of P are known. -/
structure GR (W wr : World) (e : TypeId) (g M K : Nat) (P : Nat → Prop) (T : Nat → Nat → Int) (ra ro rc : Nat → Nat) : Prop where
  mod : Mod NoBlock W wr
  new : W.heap.size ≤ g
  out : ∃ f, wr.rowIs g e M f ∧ ∀ r, P r → f r = .slice (some ⟨ra r, ro r, none⟩) K (rc r)
  lt : ∀ r, P r → r < M
  rows : ∀ r, P r → ra r ≠ g ∧ ra r < wr.heap.size ∧ ∀ j, j < K → wr.cell? ⟨ra r, ro r + j, none⟩ = some (.int .i64 (T r j))

/-- The row i besides (block x), under way. -/
structure GX (W wr : World) (e : TypeId) (g M K : Nat) (P : Nat → Prop) (T : Nat → Nat → Int) (ra ro rc : Nat → Nat) (i x : Nat) (F : Nat → Int) : Prop where
  gr : GR W wr e g M K P T ra ro rc
  hd : wr.cell? ⟨g, i, none⟩ = some (.slice (some ⟨x, 0, none⟩) K K)
  row : wr.rowIs x 3 K (fun j => .int .i64 (F j))
  new : W.heap.size ≤ x ∧ x ≠ g
  sep : ∀ r, P r → ra r ≠ x
  lt : i < M
  not : ¬ P i

section
variable {W wr : World} {e : TypeId} {g M K i x : Nat} {P : Nat → Prop} {T : Nat → Nat → Int} {ra ro rc : Nat → Nat} {F : Nat → Int}

theorem GR.hdr (h : GR W wr e g M K P T ra ro rc) {r : Nat} (hr : P r) : wr.cell? ⟨g, r, none⟩ = some (.slice (some ⟨ra r, ro r, none⟩) K (rc r)) := by
  obtain ⟨f, h1, h2⟩ := h.out
  rw [← h2 r hr]
  exact h1.cell (h.lt r hr)
theorem GR.frz (h : GR W wr e g M K P T ra ro rc) (k : Nat) : wr.frozen? ⟨g, k, none⟩ = false := by
  obtain ⟨f, h1, h2⟩ := h.out
  exact h1.frozen k
theorem GR.ex (h : GR W wr e g M K P T ra ro rc) {k : Nat} (hk : k < M) : ∃ v, wr.cell? ⟨g, k, none⟩ = some v := by
  obtain ⟨f, h1, h2⟩ := h.out
  exact ⟨_, h1.cell hk⟩
theorem GR.glt (h : GR W wr e g M K P T ra ro rc) : g < wr.heap.size := by
  obtain ⟨f, h1, h2⟩ := h.out
  exact h1.lt
theorem GR.alloc (h : GR W wr e g M K P T ra ro rc) (o : Obj) : GR W (wr.alloc o) e g M K P T ra ro rc := by
  obtain ⟨f, h1, h2⟩ := h.out
  refine ⟨h.mod.alloc o, h.new, ⟨f, h1.alloc o, h2⟩, h.lt, fun r hr => ?_⟩
  obtain ⟨a1, a2, a3⟩ := h.rows r hr
  exact ⟨a1, by simp; omega, fun j hj => ((Mod.refl NoBlock wr).alloc o).cell (a3 j hj) id⟩
theorem GR.drew (h : GR W wr e g M K P T ra ro rc) : GR W wr.drew e g M K P T ra ro rc := ⟨h.mod.drew, h.new, h.out, h.lt, h.rows⟩
theorem GR.congr (h : GR W wr e g M K P T ra ro rc) {P' : Nat → Prop} {T' : Nat → Nat → Int} (hP : ∀ r, P' r → P r) (hT : ∀ r, P' r → ∀ j, j < K → T r j = T' r j) : GR W wr e g M K P' T' ra ro rc := by
  obtain ⟨f, h1, h2⟩ := h.out
  refine ⟨h.mod, h.new, ⟨f, h1, fun r hr => h2 r (hP r hr)⟩, fun r hr => h.lt r (hP r hr), fun r hr => ?_⟩
  obtain ⟨a1, a2, a3⟩ := h.rows r (hP r hr)
  exact ⟨a1, a2, fun j hj => by rw [← hT r hr j hj]; exact a3 j hj⟩
theorem GR.tab {n : Nat} (h : GR W wr e g M K P T ra ro rc) (hn : ∀ r, r < n → P r) : Tab (fun b => b < wr.heap.size) wr g 0 n K T ra ro rc :=
  ⟨fun _ => h.glt, fun r hr => by rw [Nat.zero_add]; exact h.hdr (hn r hr), fun r hr => (h.rows r (hn r hr)).2.1, fun r hr j hj => (h.rows r (hn r hr)).2.2 j hj⟩

/-- A new row, whose block is x. -/
theorem GR.put (h : GR W wr e g M K P T ra ro rc) (hi : i < M) (hn : ¬ P i) (hx : wr.rowIs x 3 K (fun j => .int .i64 (F j))) (hxW : W.heap.size ≤ x ∧ x ≠ g) (hs : ∀ r, P r → ra r ≠ x) :
    GX W (wr.setCell ⟨g, i, none⟩ (.slice (some ⟨x, 0, none⟩) K K)) e g M K P T ra ro rc i x F := by
  obtain ⟨f, h1, h2⟩ := h.out
  refine ⟨⟨h.mod.setCell (.inr h.new) _, h.new, ⟨_, h1.set i _, fun r hr => ?_⟩, h.lt, fun r hr => ?_⟩, ?_, hx.setOther (by show ¬ x = g; exact hxW.2) _, hxW, hs, hi, hn⟩
  · rw [if_neg (fun e => hn (by rw [← e]; exact hr))]
    exact h2 r hr
  · obtain ⟨a1, a2, a3⟩ := h.rows r hr
    exact ⟨a1, by simpa [World.setCell] using a2, fun j hj => by rw [World.cell?_setCell_far _ _ _ _ (by show g ≠ ra r; exact fun e => a1 e.symm)]; exact a3 j hj⟩
  · have := (h1.set i (.slice (some ⟨x, 0, none⟩) K K)).cell hi
    rw [if_pos rfl] at this
    exact this
theorem GX.drew (h : GX W wr e g M K P T ra ro rc i x F) : GX W wr.drew e g M K P T ra ro rc i x F := ⟨h.gr.drew, h.hd, h.row, h.new, h.sep, h.lt, h.not⟩
theorem GX.at (h : GX W wr e g M K P T ra ro rc i x F) {k : Nat} (hk : k < K) : wr.cell? ⟨x, k, none⟩ = some (.int .i64 (F k)) := h.row.cell (i := k) hk
theorem GX.set (h : GX W wr e g M K P T ra ro rc i x F) {k : Nat} {y : Int} {F' : Nat → Int} (hx : k < K → y = F' k) (hf : ∀ j, j < K → j ≠ k → F j = F' j) : GX W (wr.setCell ⟨x, k, none⟩ (.int .i64 y)) e g M K P T ra ro rc i x F' := by
  obtain ⟨f, h1, h2⟩ := h.gr.out
  refine ⟨⟨h.gr.mod.setCell (.inr h.new.1) _, h.gr.new, ⟨f, h1.setOther (by show ¬ g = x; exact fun e => h.new.2 e.symm) _, h2⟩, h.gr.lt, fun r hr => ?_⟩, ?_, set_row h.row (fun hk => by rw [hx hk]) (fun j hj e => by rw [hf j hj e]), h.new, h.sep, h.lt, h.not⟩
  · obtain ⟨a1, a2, a3⟩ := h.gr.rows r hr
    exact ⟨a1, by simpa [World.setCell] using a2, fun j hj => by rw [World.cell?_setCell_far _ _ _ _ (by show x ≠ ra r; exact fun e => h.sep r hr e.symm)]; exact a3 j hj⟩
  · rw [World.cell?_setCell_far _ _ _ _ (by show x ≠ g; exact h.new.2)]
    exact h.hd
theorem GX.congr (h : GX W wr e g M K P T ra ro rc i x F) {F' : Nat → Int} (hf : ∀ j, j < K → F j = F' j) : GX W wr e g M K P T ra ro rc i x F' := ⟨h.gr, h.hd, h.row.congr (fun j hj => by rw [hf j hj]), h.new, h.sep, h.lt, h.not⟩
/-- The row is done. -/
theorem GX.done (h : GX W wr e g M K P T ra ro rc i x F) {T' : Nat → Nat → Int} {P' : Nat → Prop} (hP : ∀ r, P' r → P r ∨ r = i) (hT : ∀ r, r ≠ i → P' r → ∀ j, j < K → T r j = T' r j) (hF : ∀ j, j < K → F j = T' i j) :
    GR W wr e g M K P' T' (fun r => if r = i then x else ra r) (fun r => if r = i then 0 else ro r) (fun r => if r = i then K else rc r) := by
  obtain ⟨f, h1, h2⟩ := h.gr.out
  have hfi : f i = .slice (some ⟨x, 0, none⟩) K K := by
    have h3 := h1.cell h.lt
    rw [h.hd] at h3
    exact (Option.some_inj.1 h3).symm
  refine ⟨h.gr.mod, h.gr.new, ⟨f, h1, fun r hr => ?_⟩, fun r hr => ?_, fun r hr => ?_⟩
  · by_cases e : r = i
    · subst e; simp only [if_pos]; exact hfi
    · simp only [if_neg e]
      exact h2 r ((hP r hr).resolve_right e)
  · rcases hP r hr with h4 | h4
    · exact h.gr.lt r h4
    · rw [h4]; exact h.lt
  · by_cases e : r = i
    · subst e
      simp only [if_pos]
      exact ⟨h.new.2, h.row.lt, fun j hj => by rw [← hF j hj, Nat.zero_add]; exact h.row.cell (i := j) hj⟩
    · simp only [if_neg e]
      obtain ⟨a1, a2, a3⟩ := h.gr.rows r ((hP r hr).resolve_right e)
      exact ⟨a1, a2, fun j hj => by rw [← hT r e hr j hj]; exact a3 j hj⟩
end

/-- Values of the call's own are a row. -/
theorem Own.rowIs {w : World} {B e c : Nat} {a : Option Addr} {vs : List Value} (h : Own w B e a c vs) (hn : vs ≠ []) : ∃ g M f, a = some ⟨g, 0, none⟩ ∧ B ≤ g ∧ w.rowIs g e M f ∧ vs.length ≤ M ∧ c = M ∧ ∀ k u, vs[k]? = some u → f k = u := by
  rcases h.2 with ⟨_, h0⟩ | ⟨g, cap, cur, h1, h2, h3, h4, h5, h6, h7⟩
  · exact absurd (List.eq_nil_of_length_eq_zero h0) hn
  · have ha : a = some ⟨g, 0, none⟩ := by injection h1
    have hc : c = cap := by injection h1
    refine ⟨g, cap, fun k => cur.getD k undef, ha, h2, ⟨cur, h3, by omega, fun k hk => ?_⟩, h4, hc, fun k u hu => ?_⟩
    · simp [Array.getD, show k < cur.size by omega]
    · rw [← h7, Nat.mul_one] at hu
      rw [List.getElem?_take] at hu
      split at hu
      · next hk =>
        have : cur[k]? = some u := by simpa using hu
        simp [Array.getD_eq_getD_getElem?, this]
      · cases hu

/-- The wide table: k columns for all, then one for each row. -/
def wideT (C : Nat → Nat → Int) (sk : Nat → Int) (k i j : Nat) : Int := if j < k then (if C i j = -1 then far else C i j) else if j = k + i then sk i else far
/-- A table in which the row i has the column j alone. -/
def oneRow (T : Nat → Nat → Int) (i j r q : Nat) : Int := if r = i ∧ q ≠ j then far else T r q

end Go.Proofs.Ytnpdkpbecmpdbaa
