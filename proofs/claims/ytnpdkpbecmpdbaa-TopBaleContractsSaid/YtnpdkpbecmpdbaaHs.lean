/-
  match: what lies in memory while a row looks for a column.
-/
import Derived.Test.YtnpdkpbecmpdbaaHe
import Derived.Test.YtnpdkpbecmpdbaaOwn
import Derived.Deep.LoopGhost
set_option linter.unusedVariables false
set_option linter.unusedSimpArgs false
namespace Go.Proofs.Ytnpdkpbecmpdbaa
open Go.RowKit

/-- The five slices of a search. -/
def five (bu bv br bf : Nat) (a : Option Addr) (ca n n1 m : Nat) : Array Value :=
  #[.slice a n ca, .slice (some ⟨bu, 0, none⟩) n1 n1, .slice (some ⟨bv, 0, none⟩) m m, .slice (some ⟨br, 0, none⟩) m m, .slice (some ⟨bf, 0, none⟩) m m]

/-- The blocks of the four rows. -/
def Own4 (bu bv br bf b : Nat) : Prop := b = bu ∨ b = bv ∨ b = br ∨ b = bf

/-- The four rows of a search. -/
structure R4 (w : World) (bu bv br bf n1 m : Nat) (u v : Nat → Int) (row fr : Nat → Nat) : Prop where
  hu : w.rowIs bu 3 n1 (fun j => .int .i64 (u j))
  hv : w.rowIs bv 3 m (fun j => .int .i64 (v j))
  hrow : w.rowIs br 3 m (fun j => .int .i64 (row j : Int))
  hfr : w.rowIs bf 3 m (fun j => .int .i64 (fr j : Int))
  ne : bu ≠ bv ∧ bu ≠ br ∧ bu ≠ bf ∧ bv ≠ br ∧ bv ≠ bf ∧ br ≠ bf

/-- A search under way: its struct (block g), its rows, slacks (block bs), used columns (block bd). -/
structure SP (W wr : World) (t : TypeId) (bu bv br bf g bs bd : Nat) (a : Option Addr) (ca n n1 m : Nat) (u v : Nat → Int) (row fr : Nat → Nat) (sl : Nat → Int) (us : Nat → Bool) : Prop where
  mod : Mod (Own4 bu bv br bf) W wr
  box : wr.rowIs g t 5 (fun i => (five bu bv br bf a ca n n1 m).getD i undef)
  r4 : R4 wr bu bv br bf n1 m u v row fr
  hsl : wr.rowIs bs 3 m (fun j => .int .i64 (sl j))
  hus : wr.rowIs bd 4 m (fun j => .bool (us j))
  h1 : g ≠ bu ∧ g ≠ bv ∧ g ≠ br ∧ g ≠ bf
  h2 : g ≠ bs ∧ g ≠ bd ∧ bs ≠ bd
  h3 : (bu < W.heap.size ∧ bv < W.heap.size ∧ br < W.heap.size ∧ bf < W.heap.size) ∧ W.heap.size ≤ bs ∧ W.heap.size ≤ bd

section
variable {W wr : World} {t : TypeId} {bu bv br bf g bs bd : Nat} {a : Option Addr} {ca n n1 m : Nat} {u v : Nat → Int} {row fr : Nat → Nat} {sl : Nat → Int} {us : Nat → Bool}

theorem R4.drewN {w : World} (h : R4 w bu bv br bf n1 m u v row fr) (k : Nat) : R4 (w.drewN k) bu bv br bf n1 m u v row fr := ⟨h.hu, h.hv, h.hrow, h.hfr, h.ne⟩
theorem R4.alloc {w : World} (h : R4 w bu bv br bf n1 m u v row fr) (o : Obj) : R4 (w.alloc o) bu bv br bf n1 m u v row fr := ⟨h.hu.alloc o, h.hv.alloc o, h.hrow.alloc o, h.hfr.alloc o, h.ne⟩
theorem R4.mod {w w' : World} (h : R4 w bu bv br bf n1 m u v row fr) {D : Nat → Prop} (hm : Mod D w w') (hd : ∀ b, Own4 bu bv br bf b → ¬ D b) : R4 w' bu bv br bf n1 m u v row fr :=
  ⟨h.hu.of_block (hm.block _ h.hu.lt (hd _ (.inl rfl))), h.hv.of_block (hm.block _ h.hv.lt (hd _ (.inr (.inl rfl)))), h.hrow.of_block (hm.block _ h.hrow.lt (hd _ (.inr (.inr (.inl rfl))))), h.hfr.of_block (hm.block _ h.hfr.lt (hd _ (.inr (.inr (.inr rfl))))), h.ne⟩
theorem R4.uAt {w : World} (h : R4 w bu bv br bf n1 m u v row fr) {k : Nat} (hk : k < n1) : w.cell? ⟨bu, k, none⟩ = some (.int .i64 (u k)) := h.hu.cell (i := k) (by omega)
theorem R4.vAt {w : World} (h : R4 w bu bv br bf n1 m u v row fr) {k : Nat} (hk : k < m) : w.cell? ⟨bv, k, none⟩ = some (.int .i64 (v k)) := h.hv.cell (i := k) (by omega)
theorem R4.rowAt {w : World} (h : R4 w bu bv br bf n1 m u v row fr) {k : Nat} (hk : k < m) : w.cell? ⟨br, k, none⟩ = some (.int .i64 (row k : Int)) := h.hrow.cell (i := k) (by omega)
theorem R4.frAt {w : World} (h : R4 w bu bv br bf n1 m u v row fr) {k : Nat} (hk : k < m) : w.cell? ⟨bf, k, none⟩ = some (.int .i64 (fr k : Int)) := h.hfr.cell (i := k) (by omega)
theorem set_row {w : World} {b tt m k : Nat} {f f' : Nat → Value} {x : Value} (h : w.rowIs b tt m f) (hx : k < m → x = f' k) (hf : ∀ j, j < m → j ≠ k → f j = f' j) : (w.setCell ⟨b, k, none⟩ x).rowIs b tt m f' :=
  (h.set k x).congr fun j hj => by
    by_cases e : j = k
    · subst e; rw [if_pos rfl]; exact hx hj
    · rw [if_neg e]; exact hf j hj e
theorem R4.setU {w : World} (h : R4 w bu bv br bf n1 m u v row fr) {k : Nat} {x : Int} {u' : Nat → Int} (hx : k < n1 → x = u' k) (hf : ∀ j, j < n1 → j ≠ k → u j = u' j) : R4 (w.setCell ⟨bu, k, none⟩ (.int .i64 x)) bu bv br bf n1 m u' v row fr :=
  ⟨set_row h.hu (fun hk => by rw [hx (by omega)]) (fun j hj e => by rw [hf j (by omega) e]), h.hv.setOther (by have := h.ne; show ¬ bv = bu; omega) _, h.hrow.setOther (by have := h.ne; show ¬ br = bu; omega) _, h.hfr.setOther (by have := h.ne; show ¬ bf = bu; omega) _, h.ne⟩
theorem R4.setV {w : World} (h : R4 w bu bv br bf n1 m u v row fr) {k : Nat} {x : Int} {v' : Nat → Int} (hx : k < m → x = v' k) (hf : ∀ j, j < m → j ≠ k → v j = v' j) : R4 (w.setCell ⟨bv, k, none⟩ (.int .i64 x)) bu bv br bf n1 m u v' row fr :=
  ⟨h.hu.setOther (by have := h.ne; show ¬ bu = bv; omega) _, set_row h.hv (fun hk => by rw [hx (by omega)]) (fun j hj e => by rw [hf j (by omega) e]), h.hrow.setOther (by have := h.ne; show ¬ br = bv; omega) _, h.hfr.setOther (by have := h.ne; show ¬ bf = bv; omega) _, h.ne⟩
theorem R4.setRow {w : World} (h : R4 w bu bv br bf n1 m u v row fr) {k x : Nat} {row' : Nat → Nat} (hx : k < m → x = row' k) (hf : ∀ j, j < m → j ≠ k → row j = row' j) : R4 (w.setCell ⟨br, k, none⟩ (.int .i64 (x : Int))) bu bv br bf n1 m u v row' fr :=
  ⟨h.hu.setOther (by have := h.ne; show ¬ bu = br; omega) _, h.hv.setOther (by have := h.ne; show ¬ bv = br; omega) _, set_row h.hrow (fun hk => by rw [hx (by omega)]) (fun j hj e => by rw [hf j (by omega) e]), h.hfr.setOther (by have := h.ne; show ¬ bf = br; omega) _, h.ne⟩
theorem R4.setFr {w : World} (h : R4 w bu bv br bf n1 m u v row fr) {k x : Nat} {fr' : Nat → Nat} (hx : k < m → x = fr' k) (hf : ∀ j, j < m → j ≠ k → fr j = fr' j) : R4 (w.setCell ⟨bf, k, none⟩ (.int .i64 (x : Int))) bu bv br bf n1 m u v row fr' :=
  ⟨h.hu.setOther (by have := h.ne; show ¬ bu = bf; omega) _, h.hv.setOther (by have := h.ne; show ¬ bv = bf; omega) _, h.hrow.setOther (by have := h.ne; show ¬ br = bf; omega) _, set_row h.hfr (fun hk => by rw [hx (by omega)]) (fun j hj e => by rw [hf j (by omega) e]), h.ne⟩
theorem R4.congr {w : World} (h : R4 w bu bv br bf n1 m u v row fr) {u' v' : Nat → Int} {row' fr' : Nat → Nat} (e1 : ∀ j, j < n1 → u j = u' j) (e2 : ∀ j, j < m → v j = v' j) (e3 : ∀ j, j < m → row j = row' j) (e4 : ∀ j, j < m → fr j = fr' j) : R4 w bu bv br bf n1 m u' v' row' fr' :=
  ⟨h.hu.congr fun j hj => by rw [e1 j (by omega)], h.hv.congr fun j hj => by rw [e2 j (by omega)], h.hrow.congr fun j hj => by rw [e3 j (by omega)], h.hfr.congr fun j hj => by rw [e4 j (by omega)], h.ne⟩

theorem SP.drewN (h : SP W wr t bu bv br bf g bs bd a ca n n1 m u v row fr sl us) (k : Nat) : SP W (wr.drewN k) t bu bv br bf g bs bd a ca n n1 m u v row fr sl us := ⟨h.mod.drewN k, h.box, h.r4.drewN k, h.hsl, h.hus, h.h1, h.h2, h.h3⟩
theorem SP.drew (h : SP W wr t bu bv br bf g bs bd a ca n n1 m u v row fr sl us) : SP W wr.drew t bu bv br bf g bs bd a ca n n1 m u v row fr sl us := ⟨h.mod.drew, h.box, h.r4.drewN 1, h.hsl, h.hus, h.h1, h.h2, h.h3⟩
theorem SP.slAt (h : SP W wr t bu bv br bf g bs bd a ca n n1 m u v row fr sl us) {k : Nat} (hk : k < m) : wr.cell? ⟨bs, k, none⟩ = some (.int .i64 (sl k)) := h.hsl.cell (i := k) (by omega)
theorem SP.usAt (h : SP W wr t bu bv br bf g bs bd a ca n n1 m u v row fr sl us) {k : Nat} (hk : k < m) : wr.cell? ⟨bd, k, none⟩ = some (.bool (us k)) := h.hus.cell (i := k) (by omega)
theorem SP.b0 (h : SP W wr t bu bv br bf g bs bd a ca n n1 m u v row fr sl us) : wr.cell? ⟨g, 0, none⟩ = some (.slice a n ca) := h.box.cell (i := 0) (by omega)
theorem SP.b1 (h : SP W wr t bu bv br bf g bs bd a ca n n1 m u v row fr sl us) : wr.cell? ⟨g, 1, none⟩ = some (.slice (some ⟨bu, 0, none⟩) n1 n1) := h.box.cell (i := 1) (by omega)
theorem SP.b2 (h : SP W wr t bu bv br bf g bs bd a ca n n1 m u v row fr sl us) : wr.cell? ⟨g, 2, none⟩ = some (.slice (some ⟨bv, 0, none⟩) m m) := h.box.cell (i := 2) (by omega)
theorem SP.b3 (h : SP W wr t bu bv br bf g bs bd a ca n n1 m u v row fr sl us) : wr.cell? ⟨g, 3, none⟩ = some (.slice (some ⟨br, 0, none⟩) m m) := h.box.cell (i := 3) (by omega)
theorem SP.b4 (h : SP W wr t bu bv br bf g bs bd a ca n n1 m u v row fr sl us) : wr.cell? ⟨g, 4, none⟩ = some (.slice (some ⟨bf, 0, none⟩) m m) := h.box.cell (i := 4) (by omega)

theorem SP.setR (h : SP W wr t bu bv br bf g bs bd a ca n n1 m u v row fr sl us) {p : Addr} {x : Value} {u' v' : Nat → Int} {row' fr' : Nat → Nat} (hp : Own4 bu bv br bf p.block) (hr : R4 (wr.setCell p x) bu bv br bf n1 m u' v' row' fr') : SP W (wr.setCell p x) t bu bv br bf g bs bd a ca n n1 m u' v' row' fr' sl us :=
  ⟨h.mod.setCell (.inl hp) x, h.box.setOther (by have := h.h1; have := hp; unfold Own4 at this; omega) _, hr, h.hsl.setOther (by have := h.h3; have := hp; unfold Own4 at this; omega) _, h.hus.setOther (by have := h.h3; have := hp; unfold Own4 at this; omega) _, h.h1, h.h2, h.h3⟩
theorem SP.setU (h : SP W wr t bu bv br bf g bs bd a ca n n1 m u v row fr sl us) {k : Nat} {x : Int} {u' : Nat → Int} (hx : k < n1 → x = u' k) (hf : ∀ j, j < n1 → j ≠ k → u j = u' j) : SP W (wr.setCell ⟨bu, k, none⟩ (.int .i64 x)) t bu bv br bf g bs bd a ca n n1 m u' v row fr sl us :=
  h.setR (p := ⟨bu, k, none⟩) (.inl rfl) (h.r4.setU hx hf)
theorem SP.setV (h : SP W wr t bu bv br bf g bs bd a ca n n1 m u v row fr sl us) {k : Nat} {x : Int} {v' : Nat → Int} (hx : k < m → x = v' k) (hf : ∀ j, j < m → j ≠ k → v j = v' j) : SP W (wr.setCell ⟨bv, k, none⟩ (.int .i64 x)) t bu bv br bf g bs bd a ca n n1 m u v' row fr sl us :=
  h.setR (p := ⟨bv, k, none⟩) (.inr (.inl rfl)) (h.r4.setV hx hf)
theorem SP.setRow (h : SP W wr t bu bv br bf g bs bd a ca n n1 m u v row fr sl us) {k x : Nat} {row' : Nat → Nat} (hx : k < m → x = row' k) (hf : ∀ j, j < m → j ≠ k → row j = row' j) : SP W (wr.setCell ⟨br, k, none⟩ (.int .i64 (x : Int))) t bu bv br bf g bs bd a ca n n1 m u v row' fr sl us :=
  h.setR (p := ⟨br, k, none⟩) (.inr (.inr (.inl rfl))) (h.r4.setRow hx hf)
theorem SP.setFr (h : SP W wr t bu bv br bf g bs bd a ca n n1 m u v row fr sl us) {k x : Nat} {fr' : Nat → Nat} (hx : k < m → x = fr' k) (hf : ∀ j, j < m → j ≠ k → fr j = fr' j) : SP W (wr.setCell ⟨bf, k, none⟩ (.int .i64 (x : Int))) t bu bv br bf g bs bd a ca n n1 m u v row fr' sl us :=
  h.setR (p := ⟨bf, k, none⟩) (.inr (.inr (.inr rfl))) (h.r4.setFr hx hf)
theorem R4.setOther {w : World} (h : R4 w bu bv br bf n1 m u v row fr) {p : Addr} (hp : ¬ Own4 bu bv br bf p.block) (x : Value) : R4 (w.setCell p x) bu bv br bf n1 m u v row fr :=
  ⟨h.hu.setOther (fun e => hp (.inl e.symm)) _, h.hv.setOther (fun e => hp (.inr (.inl e.symm))) _, h.hrow.setOther (fun e => hp (.inr (.inr (.inl e.symm)))) _, h.hfr.setOther (fun e => hp (.inr (.inr (.inr e.symm)))) _, h.ne⟩
theorem SP.setSl (h : SP W wr t bu bv br bf g bs bd a ca n n1 m u v row fr sl us) {k : Nat} {x : Int} {sl' : Nat → Int} (hx : k < m → x = sl' k) (hf : ∀ j, j < m → j ≠ k → sl j = sl' j) : SP W (wr.setCell ⟨bs, k, none⟩ (.int .i64 x)) t bu bv br bf g bs bd a ca n n1 m u v row fr sl' us :=
  ⟨h.mod.setCell (p := ⟨bs, k, none⟩) (.inr h.h3.2.1) _, h.box.setOther (by have := h.h2; show ¬ g = bs; omega) _, h.r4.setOther (p := ⟨bs, k, none⟩) (by have := h.h3; show ¬ (bs = bu ∨ bs = bv ∨ bs = br ∨ bs = bf); omega) _, set_row h.hsl (fun hk => by rw [hx (by omega)]) (fun j hj e => by rw [hf j (by omega) e]),
    h.hus.setOther (by have := h.h2; show ¬ bd = bs; omega) _, h.h1, h.h2, h.h3⟩
theorem SP.setUs (h : SP W wr t bu bv br bf g bs bd a ca n n1 m u v row fr sl us) {k : Nat} {x : Bool} {us' : Nat → Bool} (hx : k < m → x = us' k) (hf : ∀ j, j < m → j ≠ k → us j = us' j) : SP W (wr.setCell ⟨bd, k, none⟩ (.bool x)) t bu bv br bf g bs bd a ca n n1 m u v row fr sl us' :=
  ⟨h.mod.setCell (p := ⟨bd, k, none⟩) (.inr h.h3.2.2) _, h.box.setOther (by have := h.h2; show ¬ g = bd; omega) _, h.r4.setOther (p := ⟨bd, k, none⟩) (by have := h.h3; show ¬ (bd = bu ∨ bd = bv ∨ bd = br ∨ bd = bf); omega) _, h.hsl.setOther (by have := h.h2; show ¬ bs = bd; omega) _,
    set_row h.hus (fun hk => by rw [hx (by omega)]) (fun j hj e => by rw [hf j (by omega) e]), h.h1, h.h2, h.h3⟩
theorem SP.congr (h : SP W wr t bu bv br bf g bs bd a ca n n1 m u v row fr sl us) {u' v' : Nat → Int} {row' fr' : Nat → Nat} {sl' : Nat → Int} {us' : Nat → Bool} (e1 : ∀ j, j < n1 → u j = u' j) (e2 : ∀ j, j < m → v j = v' j) (e3 : ∀ j, j < m → row j = row' j) (e4 : ∀ j, j < m → fr j = fr' j)
    (e5 : ∀ j, j < m → sl j = sl' j) (e6 : ∀ j, j < m → us j = us' j) : SP W wr t bu bv br bf g bs bd a ca n n1 m u' v' row' fr' sl' us' :=
  ⟨h.mod, h.box, h.r4.congr e1 e2 e3 e4, h.hsl.congr fun j hj => by rw [e5 j (by omega)], h.hus.congr fun j hj => by rw [e6 j (by omega)], h.h1, h.h2, h.h3⟩
end

/-- The table, by cells: row r lies where ra, ro say. -/
structure Tab (D : Nat → Prop) (w : World) (ba oa n K : Nat) (c : Nat → Nat → Int) (ra ro rc : Nat → Nat) : Prop where
  base : 0 < n → D ba
  rows : ∀ r, r < n → w.cell? ⟨ba, oa + r, none⟩ = some (.slice (some ⟨ra r, ro r, none⟩) K (rc r))
  own : ∀ r, r < n → D (ra r)
  cells : ∀ r, r < n → ∀ j, j < K → w.cell? ⟨ra r, ro r + j, none⟩ = some (.int .i64 (c r j))

theorem Tab.of {D : Nat → Prop} {w : World} {ba oa : Nat} {T : List (List Int)} {K : Nat} (h : Mixes D w (some ⟨ba, oa, none⟩) T) (hK : 0 < K) (hr : ∀ r, r < T.length → (rx T r).length = K) :
    ∃ ra ro rc, Tab D w ba oa T.length K (fun r j => ix (rx T r) j) ra ro rc := by
  have : ∀ r, ∃ p : Nat × Nat × Nat, r < T.length → D ba ∧ w.cell? ⟨ba, oa + r, none⟩ = some (.slice (some ⟨p.1, p.2.1, none⟩) K p.2.2) ∧ D p.1 ∧ ∀ j, j < K → w.cell? ⟨p.1, p.2.1 + j, none⟩ = some (.int .i64 (ix (rx T r) j)) := by
    intro r
    by_cases hlt : r < T.length
    · obtain ⟨b, off, a', c', ha, hD, hc, hI⟩ := h.row hlt
      simp only [Option.some.injEq, Addr.mk.injEq, and_true] at ha
      obtain ⟨rfl, rfl⟩ := ha
      obtain ⟨b2, off2, e2, hD2, hc2⟩ := hI.2 (by intro e; have := hr r hlt; rw [e] at this; simp at this; omega)
      refine ⟨(b2, off2, c'), fun _ => ⟨hD, by rw [hc, e2, hr r hlt], hD2, fun j hj => (hc2 j (by rw [hr r hlt]; exact hj)).1⟩⟩
    · exact ⟨(0, 0, 0), fun h => absurd h hlt⟩
  obtain ⟨p, hp⟩ := Classical.axiomOfChoice this
  exact ⟨fun r => (p r).1, fun r => (p r).2.1, fun r => (p r).2.2, fun h0 => (hp 0 h0).1, fun r hr => (hp r hr).2.1, fun r hr => (hp r hr).2.2.1, fun r hr => (hp r hr).2.2.2⟩

end Go.Proofs.Ytnpdkpbecmpdbaa
