/-
  Plain predicates on memory: a slice that reads as a list of numbers, a slice of such slices; worlds that differ in draws alone; frames.
-/
import Derived.WalkKit
import Derived.WalkSpells
import Derived.WalkLawsBesides
import Derived.Deep.QuietTactic
import Derived.BigQuiet
import Derived.Lib.Hide
import Derived.Deep.OwnRows
import Derived.Deep.RegionHeld3
import Derived.Deep.AppendLies
import Derived.Maps.AppendAt
set_option linter.unusedVariables false
set_option linter.unusedSimpArgs false
namespace Go.Proofs.Ytnpdkpbecmpdbaa
open Go.RowKit

/-! ### Numbers of a list -/

/-- Element k of a list of numbers (0 behind its end); a name that simp does not open. -/
def ix (xs : List Int) (k : Nat) : Int := xs.getD k 0
/-- Row k of a list of lists. -/
def rx (xss : List (List Int)) (k : Nat) : List Int := xss.getD k []

theorem ix_eq {l : List Int} {k : Nat} (h : k < l.length) : ix l k = l[k] := by simp [ix, h]
theorem rx_eq {l : List (List Int)} {k : Nat} (h : k < l.length) : rx l k = l[k] := by simp [rx, h]
theorem ix_get {l : List Int} {k : Nat} {u : Int} (h : l[k]? = some u) : ix l k = u := by simp [ix, h]
theorem drop_ix {l : List Int} {k : Nat} (h : k < l.length) : l.drop k = ix l k :: l.drop (k + 1) := by
  rw [List.drop_eq_getElem_cons h, ix_eq h]
theorem drop_rx {l : List (List Int)} {k : Nat} (h : k < l.length) : l.drop k = rx l k :: l.drop (k + 1) := by
  rw [List.drop_eq_getElem_cons h, rx_eq h]
theorem take_ix {l : List Int} {k : Nat} (h : k < l.length) : l.take (k + 1) = l.take k ++ [ix l k] := by
  rw [List.take_succ_eq_append_getElem h, ix_eq h]
theorem take_rx {l : List (List Int)} {k : Nat} (h : k < l.length) : l.take (k + 1) = l.take k ++ [rx l k] := by
  rw [List.take_succ_eq_append_getElem h, rx_eq h]
theorem ix_append_left {l m : List Int} {k : Nat} (h : k < l.length) : ix (l ++ m) k = ix l k := by simp [ix, List.getElem?_append_left h]
theorem ix_replicate {n k : Nat} {x : Int} (h : k < n) : ix (List.replicate n x) k = x := by simp [ix, h]
theorem ext_ix {l m : List Int} (hl : l.length = m.length) (h : ∀ k, k < l.length → ix l k = ix m k) : l = m :=
  List.ext_getElem hl fun k h1 h2 => by rw [← ix_eq h1, ← ix_eq h2]; exact h k h1
theorem ext_rx {l m : List (List Int)} (hl : l.length = m.length) (h : ∀ k, k < l.length → rx l k = rx m k) : l = m :=
  List.ext_getElem hl fun k h1 h2 => by rw [← rx_eq h1, ← rx_eq h2]; exact h k h1

/-! ### Worlds -/

/-- w' is w after some draws. -/
def Drawn (w w' : World) : Prop := ∃ n, w' = w.drewN n
theorem Drawn.refl (w : World) : Drawn w w := ⟨0, rfl⟩
theorem Drawn.mk (w : World) (n : Nat) : Drawn w (w.drewN n) := ⟨n, rfl⟩
theorem Drawn.trans {a b c : World} (h : Drawn a b) (k : Drawn b c) : Drawn a c := by
  obtain ⟨n, rfl⟩ := h; obtain ⟨m, rfl⟩ := k; exact ⟨n + m, by simp⟩

/-- Only blocks in D, and what is new, may have turned. -/
structure Mod (D : Nat → Prop) (w w' : World) : Prop where
  os : w'.os = w.os
  tape : w'.tape = w.tape
  output : w'.output = w.output
  size : w.heap.size ≤ w'.heap.size
  block : ∀ k, k < w.heap.size → ¬ D k → w'.heap[k]? = w.heap[k]?

def NoBlock : Nat → Prop := fun _ => False

theorem Mod.refl (D : Nat → Prop) (w : World) : Mod D w w := ⟨rfl, rfl, rfl, Nat.le_refl _, fun _ _ _ => rfl⟩
theorem Mod.trans {D : Nat → Prop} {a b c : World} (h : Mod D a b) (k : Mod D b c) : Mod D a c :=
  ⟨k.os.trans h.os, k.tape.trans h.tape, k.output.trans h.output, Nat.le_trans h.size k.size, fun i hi hn => (k.block i (Nat.lt_of_lt_of_le hi h.size) hn).trans (h.block i hi hn)⟩
theorem Mod.mono {D D' : Nat → Prop} {w w' : World} (h : Mod D w w') (hd : ∀ k, k < w.heap.size → D k → D' k) : Mod D' w w' :=
  ⟨h.os, h.tape, h.output, h.size, fun k hk hn => h.block k hk fun hD => hn (hd k hk hD)⟩
/-- The second step may write whatever is new since the first world. -/
theorem Mod.step {D D' : Nat → Prop} {a b c : World} (h : Mod D a b) (k : Mod D' b c) (hd : ∀ i, i < a.heap.size → D' i → D i) : Mod D a c :=
  ⟨k.os.trans h.os, k.tape.trans h.tape, k.output.trans h.output, Nat.le_trans h.size k.size, fun i hi hn => (k.block i (Nat.lt_of_lt_of_le hi h.size) fun h' => hn (hd i hi h')).trans (h.block i hi hn)⟩
theorem Mod.drewN {D : Nat → Prop} {a w : World} (h : Mod D a w) (n : Nat) : Mod D a (w.drewN n) := ⟨h.os, h.tape, h.output, h.size, h.block⟩
theorem Mod.drew {D : Nat → Prop} {a w : World} (h : Mod D a w) : Mod D a w.drew := ⟨h.os, h.tape, h.output, h.size, h.block⟩
theorem Mod.drawn {D : Nat → Prop} {a w w' : World} (h : Mod D a w) (k : Drawn w w') : Mod D a w' := by obtain ⟨n, rfl⟩ := k; exact h.drewN n
theorem Mod.alloc {D : Nat → Prop} {a w : World} (h : Mod D a w) (o : Obj) : Mod D a (w.alloc o) :=
  h.trans ⟨rfl, rfl, rfl, by simp, fun k hk _ => Below.heap_alloc _ _ _ hk⟩
theorem Mod.setCell {D : Nat → Prop} {a w : World} (h : Mod D a w) {p : Addr} (hp : D p.block ∨ a.heap.size ≤ p.block) (u : Value) : Mod D a (w.setCell p u) :=
  h.step (D' := fun k => k = p.block) ⟨rfl, rfl, rfl, by simp [World.setCell], fun k hk hn => Below.heap_setCell _ _ _ _ hn⟩ (fun i hi e => by
    subst e; rcases hp with hp | hp
    · exact hp
    · omega)
theorem Mod.set1 {bb : Nat} {a w : World} (h : Mod (fun b => b = bb) a w) (o : Nat) (u : Value) : Mod (fun b => b = bb) a (w.setCell ⟨bb, o, Option.none⟩ u) := h.setCell (p := ⟨bb, o, Option.none⟩) (.inl rfl) u
theorem Mod.only {D : Nat → Prop} {a w : World} (h : Mod NoBlock a w) : Mod D a w := h.mono fun _ _ h => absurd h id
theorem Mod.grown {D : Nat → Prop} {a w w' : World} {row : Option Nat} (h : Mod D a w) (hg : w.grownBy w' row) (hr : ∀ k, row = some k → D k ∨ a.heap.size ≤ k) : Mod D a w' :=
  h.step (D' := fun k => row = some k) ⟨hg.os, hg.tape, hg.output, hg.size, fun k hk hn => hg.block k hk (fun e => hn e.symm)⟩ (fun i hi e => by
    rcases hr i e with hp | hp
    · exact hp
    · omega)
theorem Mod.below {w w' : World} (h : Mod NoBlock w w') : Below w.heap.size w w' := ⟨h.os, h.tape, h.output, h.size, fun k hk => h.block k hk id⟩
theorem Mod.of_below {D : Nat → Prop} {w w' : World} (h : Below w.heap.size w w') : Mod D w w' := ⟨h.os, h.tape, h.output, h.size, fun k hk _ => h.block k hk⟩
theorem Mod.cell {D : Nat → Prop} {w w' : World} (h : Mod D w w') {p : Addr} {v : Value} (hc : w.cell? p = some v) (hn : ¬ D p.block) : w'.cell? p = some v :=
  (World.cell?_of_block (h.block p.block (World.block_lt_of_cell? w p hc) hn)).trans hc
theorem Mod.size_lt {D : Nat → Prop} {w w' : World} (h : Mod D w w') {k : Nat} (hk : k < w.heap.size) : k < w'.heap.size := Nat.lt_of_lt_of_le hk h.size

/-! ### A slice of numbers -/

/-- The numbers xs lie at the address a (none if there are none), in a block of D, in cells that may be written. -/
def Ints (D : Nat → Prop) (w : World) (a : Option Addr) (xs : List Int) : Prop :=
  xs.length ≤ maxLen ∧ (xs ≠ [] → ∃ b off, a = some ⟨b, off, Option.none⟩ ∧ D b ∧ ∀ k, k < xs.length → w.cell? ⟨b, off + k, Option.none⟩ = some (.int .i64 (ix xs k)) ∧ w.frozen? ⟨b, off + k, Option.none⟩ = false)
theorem Mod.frozen {D : Nat → Prop} {w w' : World} (h : Mod D w w') {p : Addr} (hp : p.block < w.heap.size) (hn : ¬ D p.block) : w'.frozen? p = w.frozen? p := World.frozen?_of_block (h.block p.block hp hn)

section
variable {D D' : Nat → Prop} {w w' : World} {a : Option Addr} {xs : List Int}

theorem Ints.nil (D : Nat → Prop) (w : World) (a : Option Addr) : Ints D w a [] := ⟨by simp [maxLen], fun h => absurd rfl h⟩

theorem Ints.open (h : Ints D w a xs) :
    xs.length ≤ 9223372036854775807 ∧ ∃ b off, (xs ≠ [] → a = some ⟨b, off, Option.none⟩) ∧ ∀ k, k < xs.length → w.cell? ⟨b, off + k, Option.none⟩ = some (.int .i64 (ix xs k)) := by
  refine ⟨h.1, ?_⟩
  by_cases hx : xs = []
  · subst hx; exact ⟨0, 0, fun h => absurd rfl h, fun k hk => absurd hk (by simp)⟩
  · obtain ⟨b, off, ha, _, hc⟩ := h.2 hx
    exact ⟨b, off, fun _ => ha, fun k hk => (hc k hk).1⟩

theorem Ints.mono (h : Ints D w a xs) (hd : ∀ b, b < w.heap.size → D b → D' b) : Ints D' w a xs :=
  ⟨h.1, fun hx => by
    obtain ⟨b, off, ha, hD, hc⟩ := h.2 hx
    have hpos : 0 < xs.length := by cases xs <;> simp_all
    exact ⟨b, off, ha, hd b (World.block_lt_of_cell? w _ (hc 0 hpos).1) hD, hc⟩⟩

theorem Ints.mod (h : Ints D w a xs) {E : Nat → Prop} (m : Mod E w w') (hd : ∀ b, b < w.heap.size → D b → ¬ E b) : Ints D w' a xs :=
  ⟨h.1, fun hx => by
    obtain ⟨b, off, ha, hD, hc⟩ := h.2 hx
    refine ⟨b, off, ha, hD, fun k hk => ?_⟩
    have hlt := World.block_lt_of_cell? w _ (hc k hk).1
    exact ⟨m.cell (hc k hk).1 (hd b hlt hD), (m.frozen (p := ⟨b, off + k, Option.none⟩) hlt (hd b hlt hD)).trans (hc k hk).2⟩⟩

theorem Ints.drewN (h : Ints D w a xs) (n : Nat) : Ints D (w.drewN n) a xs := h
theorem Ints.drawn (h : Ints D w a xs) (k : Drawn w w') : Ints D w' a xs := by obtain ⟨n, rfl⟩ := k; exact h
theorem Ints.alloc (h : Ints D w a xs) (o : Obj) : Ints D (w.alloc o) a xs := h.mod ((Mod.refl NoBlock w).alloc o) fun _ _ _ h => h
theorem Ints.frame (h : Ints D w a xs) (m : Mod NoBlock w w') : Ints D w' a xs := h.mod m fun _ _ _ h => h
theorem Ints.lt (h : Ints D w a xs) : Ints (fun b => D b ∧ b < w.heap.size) w a xs := h.mono fun b hb hd => ⟨hd, hb⟩

/-- Out of a row of the call's own. -/
theorem Ints.of_own {base e : Nat} {n c : Nat} (hn : n = xs.length) (h : w.ownsRow base e 1 (.slice a n c) n (xs.map (Value.int .i64))) (hd : ∀ b, base ≤ b → b < w.heap.size → D b) (hl : xs.length ≤ maxLen) : Ints D w a xs := by
  subst hn
  refine ⟨hl, fun hx => ?_⟩
  rcases h.2 with ⟨hv, h0⟩ | ⟨g, cap, cur, hv, hb, hg, _⟩
  · exact absurd (List.eq_nil_of_length_eq_zero h0) hx
  · have ha : a = some ⟨g, 0, Option.none⟩ := by injection hv
    subst ha
    refine ⟨g, 0, rfl, hd g hb (Array.getElem?_eq_some_iff.1 hg).1, fun k hk => ?_⟩
    have := h.cells (g := g) rfl k (.int .i64 (ix xs k)) (by rw [List.getElem?_map, List.getElem?_eq_getElem hk, ix_eq hk]; rfl)
    have hadd : (⟨g, 0, Option.none⟩ : Addr).add k = ⟨g, 0 + k, Option.none⟩ := by unfold Addr.add; split <;> simp_all
    exact ⟨by rw [← hadd]; exact this, by simp [World.frozen?, hg]⟩

/-- Out of a row told by the index. -/
theorem Ints.of_row {b t n : Nat} {f : Nat → Value} (h : w.rowIs b t n f) (hn : xs.length ≤ n) (hl : xs.length ≤ maxLen) (hf : ∀ k, k < xs.length → f k = .int .i64 (ix xs k)) (hd : D b) : Ints D w (some ⟨b, 0, Option.none⟩) xs :=
  ⟨hl, fun _ => ⟨b, 0, rfl, hd, fun k hk => ⟨by rw [Nat.zero_add, h.cell (by omega), hf k hk], by rw [Nat.zero_add]; exact h.frozen k⟩⟩⟩
end

/-! ### A slice of slices of numbers -/

def Mixes (D : Nat → Prop) (w : World) (a : Option Addr) (xss : List (List Int)) : Prop :=
  xss.length ≤ maxLen ∧ (xss ≠ [] → ∃ b off, a = some ⟨b, off, Option.none⟩ ∧ D b ∧ ∀ k, k < xss.length → ∃ a' c', w.cell? ⟨b, off + k, Option.none⟩ = some (.slice a' (rx xss k).length c') ∧ Ints D w a' (rx xss k))

section
variable {D D' : Nat → Prop} {w w' : World} {a : Option Addr} {xss : List (List Int)}

theorem Mixes.nil (D : Nat → Prop) (w : World) (a : Option Addr) : Mixes D w a [] := ⟨by simp [maxLen], fun h => absurd rfl h⟩

theorem Mixes.open (h : Mixes D w a xss) :
    xss.length ≤ 9223372036854775807 ∧ ∃ b off, (xss ≠ [] → a = some ⟨b, off, Option.none⟩) ∧ ∀ k, k < xss.length → ∃ a' c', w.cell? ⟨b, off + k, Option.none⟩ = some (.slice a' (rx xss k).length c') ∧ Ints D w a' (rx xss k) := by
  refine ⟨h.1, ?_⟩
  by_cases hx : xss = []
  · subst hx; exact ⟨0, 0, fun h => absurd rfl h, fun k hk => absurd hk (by simp)⟩
  · obtain ⟨b, off, ha, _, hc⟩ := h.2 hx
    exact ⟨b, off, fun _ => ha, hc⟩

theorem Mixes.mono (h : Mixes D w a xss) (hd : ∀ b, b < w.heap.size → D b → D' b) : Mixes D' w a xss :=
  ⟨h.1, fun hx => by
    obtain ⟨b, off, ha, hD, hc⟩ := h.2 hx
    have hpos : 0 < xss.length := by cases xss <;> simp_all
    obtain ⟨a', c', h0, _⟩ := hc 0 hpos
    refine ⟨b, off, ha, hd b (World.block_lt_of_cell? w _ h0) hD, fun k hk => ?_⟩
    obtain ⟨a', c', h1, h2⟩ := hc k hk
    exact ⟨a', c', h1, h2.mono hd⟩⟩

theorem Mixes.mod (h : Mixes D w a xss) {E : Nat → Prop} (m : Mod E w w') (hd : ∀ b, b < w.heap.size → D b → ¬ E b) : Mixes D w' a xss :=
  ⟨h.1, fun hx => by
    obtain ⟨b, off, ha, hD, hc⟩ := h.2 hx
    refine ⟨b, off, ha, hD, fun k hk => ?_⟩
    obtain ⟨a', c', h1, h2⟩ := hc k hk
    exact ⟨a', c', m.cell h1 (hd b (World.block_lt_of_cell? w _ h1) hD), h2.mod m hd⟩⟩

theorem Mixes.drewN (h : Mixes D w a xss) (n : Nat) : Mixes D (w.drewN n) a xss := h
theorem Mixes.drawn (h : Mixes D w a xss) (k : Drawn w w') : Mixes D w' a xss := by obtain ⟨n, rfl⟩ := k; exact h
theorem Mixes.alloc (h : Mixes D w a xss) (o : Obj) : Mixes D (w.alloc o) a xss := h.mod ((Mod.refl NoBlock w).alloc o) fun _ _ _ h => h
theorem Mixes.frame (h : Mixes D w a xss) (m : Mod NoBlock w w') : Mixes D w' a xss := h.mod m fun _ _ _ h => h

/-- The values of the rows. -/
def RowVals (D : Nat → Prop) (w : World) (vs : List Value) (xss : List (List Int)) : Prop :=
  vs.length = xss.length ∧ ∀ k, k < xss.length → ∃ a' c', vs[k]? = some (.slice a' (rx xss k).length c') ∧ Ints D w a' (rx xss k)

theorem RowVals.nil (D : Nat → Prop) (w : World) : RowVals D w [] [] := ⟨rfl, fun k hk => absurd hk (by simp)⟩
theorem RowVals.snoc {vs : List Value} (h : RowVals D w vs xss) {a' : Option Addr} {xs : List Int} {c' : Nat} (hx : Ints D w a' xs) : RowVals D w (vs ++ [.slice a' xs.length c']) (xss ++ [xs]) := by
  refine ⟨by simp [h.1], fun k hk => ?_⟩
  by_cases hlt : k < xss.length
  · obtain ⟨b, c, h1, h2⟩ := h.2 k hlt
    have e : rx (xss ++ [xs]) k = rx xss k := by simp [rx, List.getElem?_append_left hlt]
    rw [e]
    exact ⟨b, c, by rw [List.getElem?_append_left (by rw [h.1]; exact hlt)]; exact h1, h2⟩
  · have hk' : k = xss.length := by simp at hk; omega
    subst hk'
    have e : rx (xss ++ [xs]) xss.length = xs := by simp [rx]
    rw [e]
    exact ⟨a', c', by rw [← h.1]; simp, hx⟩
theorem RowVals.mod {vs : List Value} (h : RowVals D w vs xss) {E : Nat → Prop} (m : Mod E w w') (hd : ∀ b, b < w.heap.size → D b → ¬ E b) : RowVals D w' vs xss :=
  ⟨h.1, fun k hk => let ⟨a', c', h1, h2⟩ := h.2 k hk; ⟨a', c', h1, h2.mod m hd⟩⟩
theorem RowVals.mono {vs : List Value} (h : RowVals D w vs xss) (hd : ∀ b, b < w.heap.size → D b → D' b) : RowVals D' w vs xss :=
  ⟨h.1, fun k hk => let ⟨a', c', h1, h2⟩ := h.2 k hk; ⟨a', c', h1, h2.mono hd⟩⟩
theorem RowVals.one {vs : List Value} (h : RowVals D w vs xss) : ∀ u ∈ vs, u.oneCell' = true := by
  intro u hu
  obtain ⟨k, hk, rfl⟩ := List.mem_iff_getElem.1 hu
  obtain ⟨a', c', h1, _⟩ := h.2 k (by rw [← h.1]; exact hk)
  rw [List.getElem?_eq_getElem hk] at h1
  injection h1 with h1
  rw [h1]; rfl

theorem Mixes.of_own {base e : Nat} {n c : Nat} {vs : List Value} (hn : n = xss.length) (h : w.ownsRow base e 1 (.slice a n c) n vs) (hv : RowVals D w vs xss) (hd : ∀ b, base ≤ b → b < w.heap.size → D b) (hl : xss.length ≤ maxLen) : Mixes D w a xss := by
  subst hn
  refine ⟨hl, fun hx => ?_⟩
  rcases h.2 with ⟨_, h0⟩ | ⟨g, cap, cur, hv', hb, hg, _⟩
  · exact absurd (List.eq_nil_of_length_eq_zero h0) hx
  · have ha : a = some ⟨g, 0, Option.none⟩ := by injection hv'
    subst ha
    refine ⟨g, 0, rfl, hd g hb (Array.getElem?_eq_some_iff.1 hg).1, fun k hk => ?_⟩
    obtain ⟨a', c', h1, h2⟩ := hv.2 k hk
    refine ⟨a', c', ?_, h2⟩
    have := h.cells (g := g) rfl k _ h1
    have hadd : (⟨g, 0, Option.none⟩ : Addr).add k = ⟨g, 0 + k, Option.none⟩ := by unfold Addr.add; split <;> simp_all
    rw [← hadd]; exact this

theorem cell_new (w : World) (cs : Array Value) (e : TypeId) (k : Nat) (v : Value) (h : cs[k]? = some v) : (w.alloc (.cells cs e)).cell? ⟨w.heap.size, 0 + k, Option.none⟩ = some v := by
  rw [Nat.zero_add, cell_of_row _ _ k cs e (0, 0) (heap_alloc_new w _), h]

theorem frozen_new (w : World) (cs : Array Value) (e : TypeId) (k : Nat) : (w.alloc (.cells cs e)).frozen? ⟨w.heap.size, 0 + k, Option.none⟩ = false := by
  unfold World.frozen?; rw [heap_alloc_new w (.cells cs e)]; simp

theorem Mixes.one {xs : List Int} (h : Ints D w a xs) (c : Nat) (t : TypeId) : Mixes (fun b => D b ∨ b = w.heap.size) (w.alloc (.cells #[.slice a xs.length c] t)) (some ⟨w.heap.size, 0, Option.none⟩) [xs] :=
  ⟨by simp [maxLen], fun _ => ⟨w.heap.size, 0, rfl, .inr rfl, fun k hk => by
    obtain rfl : k = 0 := by simp at hk; omega
    exact ⟨a, c, cell_new w _ _ 0 _ rfl, (h.alloc _).mono fun _ _ hd => .inl hd⟩⟩⟩

theorem Mixes.two {xs ys : List Int} {a2 : Option Addr} (h : Ints D w a xs) (h2 : Ints D w a2 ys) (c c2 : Nat) (t : TypeId) :
    Mixes (fun b => D b ∨ b = w.heap.size) (w.alloc (.cells #[.slice a xs.length c, .slice a2 ys.length c2] t)) (some ⟨w.heap.size, 0, Option.none⟩) [xs, ys] :=
  ⟨by simp [maxLen], fun _ => ⟨w.heap.size, 0, rfl, .inr rfl, fun k hk => by
    have hk2 : k < 2 := by simpa using hk
    rcases (by omega : k = 0 ∨ k = 1) with rfl | rfl
    · exact ⟨a, c, cell_new w _ _ 0 _ rfl, (h.alloc _).mono fun _ _ hd => .inl hd⟩
    · exact ⟨a2, c2, cell_new w _ _ 1 _ rfl, (h2.alloc _).mono fun _ _ hd => .inl hd⟩⟩⟩

theorem Ints.one (D : Nat → Prop) (w : World) (x : Int) (t : TypeId) (hd : D w.heap.size) : Ints D (w.alloc (.cells #[.int .i64 x] t)) (some ⟨w.heap.size, 0, Option.none⟩) [x] :=
  ⟨by simp [maxLen], fun _ => ⟨w.heap.size, 0, rfl, hd, fun k hk => by
    obtain rfl : k = 0 := by simp at hk; omega
    exact ⟨cell_new w _ _ 0 _ rfl, frozen_new _ _ _ _⟩⟩⟩
theorem Ints.pair (D : Nat → Prop) (w : World) (x y : Int) (t : TypeId) (hd : D w.heap.size) : Ints D (w.alloc (.cells #[.int .i64 x, .int .i64 y] t)) (some ⟨w.heap.size, 0, Option.none⟩) [x, y] :=
  ⟨by simp [maxLen], fun _ => ⟨w.heap.size, 0, rfl, hd, fun k hk => by
    have hk2 : k < 2 := by simpa using hk
    rcases (by omega : k = 0 ∨ k = 1) with rfl | rfl
    · exact ⟨cell_new w _ _ 0 _ rfl, frozen_new _ _ _ _⟩
    · exact ⟨cell_new w _ _ 1 _ rfl, frozen_new _ _ _ _⟩⟩⟩
theorem Ints.three (D : Nat → Prop) (w : World) (x y z : Int) (t : TypeId) (hd : D w.heap.size) : Ints D (w.alloc (.cells #[.int .i64 x, .int .i64 y, .int .i64 z] t)) (some ⟨w.heap.size, 0, Option.none⟩) [x, y, z] :=
  ⟨by simp [maxLen], fun _ => ⟨w.heap.size, 0, rfl, hd, fun k hk => by
    have hk2 : k < 3 := by simpa using hk
    rcases (by omega : k = 0 ∨ k = 1 ∨ k = 2) with rfl | rfl | rfl
    · exact ⟨cell_new w _ _ 0 _ rfl, frozen_new _ _ _ _⟩
    · exact ⟨cell_new w _ _ 1 _ rfl, frozen_new _ _ _ _⟩
    · exact ⟨cell_new w _ _ 2 _ rfl, frozen_new _ _ _ _⟩⟩⟩

/-- A cell of it, and its row. -/
theorem Mixes.row {D : Nat → Prop} {w : World} {a : Option Addr} {xss : List (List Int)} (h : Mixes D w a xss) {k : Nat} (hk : k < xss.length) :
    ∃ b off a' c', a = some ⟨b, off, Option.none⟩ ∧ D b ∧ w.cell? ⟨b, off + k, Option.none⟩ = some (.slice a' (rx xss k).length c') ∧ Ints D w a' (rx xss k) := by
  obtain ⟨b, off, ha, hD, hc⟩ := h.2 (by intro e; subst e; simp at hk)
  obtain ⟨a', c', h1, h2⟩ := hc k hk
  exact ⟨b, off, a', c', ha, hD, h1, h2⟩
end

/-- A new block, told by the index. -/
theorem rowIs_new (w : World) (c : Array Value) (t : TypeId) : (w.alloc (.cells c t)).rowIs w.heap.size t c.size (fun i => c.getD i undef) :=
  World.rowIs_alloc w c t _ fun i hi => by simp [Array.getD, hi]

/-! ### A region whose operations but for calls are blind to the world, and whose calls leave old memory alone -/
def KeptT (W : World) := { w' : World // Mod NoBlock W w' }
instance (W : World) : Nonempty (KeptT W) := ⟨⟨W, Mod.refl _ _⟩⟩
/-- A world in which all that W held is as it was. -/
def KeptT.w {W : World} (x : KeptT W) : World := x.1
theorem KeptT.mod {W : World} (x : KeptT W) : Mod NoBlock W x.w := x.2
theorem wp_region_kept {P : Program} {id : Nat} {Q : Exit → Act → World → Prop} {a : Act} {w : World} {l : List Oper} (hm : P.follows .mixedOrders = true) (hB : Region.lexB .any l.toArray = true)
    (h : wpQuiet P l.toArray (fun w' => ∃ x : KeptT w, w' = x.w) (fun a' => ∀ w', (∃ x : KeptT w, w' = x.w) → Q .normal a' w') l a) : (Code.region id l.toArray true).wp P Q a w :=
  wp_region_quiet (C := fun w' => ∃ x : KeptT w, w' = x.w) hm hB ⟨⟨_, (Mod.refl NoBlock w).drew⟩, rfl⟩ (by simpa using h)
theorem calls_kept {P : Program} {f : FuncId} {args : Array Value} {W : World} (x : KeptT W) {v : Value} (h : Calls P f args x.w fun e w' => e = .returned v ∧ Mod NoBlock x.w w') :
    Calls P f args x.w fun e w' => e = .returned v ∧ ∃ y : KeptT W, w' = y.w := h.mono fun e w' ⟨h1, h2⟩ => ⟨h1, ⟨w', x.mod.trans h2⟩, rfl⟩

/-! ### Endings -/
theorem ret_bool {a b : Bool} (h : a = b) : Ending.returned (.bool a) = .returned (.bool b) := by rw [h]
theorem ret_int {k : IntKind} {a b : Int} (h : a = b) : Ending.returned (.int k a) = .returned (.int k b) := by rw [h]
theorem ret_int2 {k l : IntKind} {a b c d : Int} (h : a = b) (h' : c = d) : Ending.returned (.tuple #[.int k a, .int l c]) = .returned (.tuple #[.int k b, .int l d]) := by rw [h, h']

end Go.Proofs.Ytnpdkpbecmpdbaa
