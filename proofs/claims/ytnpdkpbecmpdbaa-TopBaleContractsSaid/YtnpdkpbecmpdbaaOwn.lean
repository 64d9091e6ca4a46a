/-
  Rows that the call itself owns (elements of one cell each), and append onto them, whatever the source.
-/
import Derived.Test.YtnpdkpbecmpdbaaMem
set_option linter.unusedVariables false
set_option linter.unusedSimpArgs false
namespace Go.Proofs.Ytnpdkpbecmpdbaa
open Go.RowKit

/-- What is asked of a slice type t with elements e of one cell. -/
def Elem1 (P : Program) (t e : TypeId) (bytes : Nat) : Prop :=
  P.underlying t = some (.slice e) ∧ ∃ i z, P.info? e = some i ∧ i.zero = some z ∧ i.size = 1 ∧ i.bytes = bytes ∧ z.cells.size = 1

theorem Elem1.mk {P : Program} {t e : TypeId} {z : Value} {bytes : Nat} (ht : P.underlying t = some (.slice e)) (hi : (P.info? e).map (fun i => (i.zero, i.size, i.bytes)) = some (some z, 1, bytes)) (hz : z.cells.size = 1) : Elem1 P t e bytes := by
  obtain ⟨i, h, h2⟩ := Option.map_eq_some_iff.1 hi
  simp only [Prod.mk.injEq] at h2
  exact ⟨ht, i, z, h, h2.1, h2.2.1, h2.2.2, hz⟩

def blockOf : Option Addr → Option Nat
  | some a => some a.block
  | Option.none => Option.none

theorem ownBlock_slice (a : Option Addr) (n c : Nat) : (Value.slice a n c).ownBlock = blockOf a := by cases a <;> rfl

/-- The slice '.slice a vs.length c' is the call's own: nil, or the head of a row of a block from B on, which holds vs. -/
def Own (w : World) (B e : Nat) (a : Option Addr) (c : Nat) (vs : List Value) : Prop := w.ownsRow B e 1 (.slice a vs.length c) vs.length vs

/-- The values news can be read at the address a. -/
def Src (w : World) (a : Option Addr) (news : List Value) : Prop :=
  news ≠ [] → ∃ ad, a = some ad ∧ ∀ j u, news[j]? = some u → w.cell? (ad.add j) = some u

theorem add_plain (b o k : Nat) : (⟨b, o, Option.none⟩ : Addr).add k = ⟨b, o + k, Option.none⟩ := by unfold Addr.add; split <;> simp_all

section
variable {w w' : World} {B e c : Nat} {a : Option Addr} {vs : List Value}

theorem Own.nil (w : World) (B e : Nat) : Own w B e Option.none 0 [] := World.ownsRow_nil w B e 1
theorem Own.fresh (w : World) (B e : Nat) (hB : B ≤ w.heap.size) (cs : Array Value) (h : cs.size ≤ maxLen) : Own (w.alloc (.cells cs e)) B e (some ⟨w.heap.size, 0, Option.none⟩) cs.size cs.toList := by
  refine ⟨by simp, .inr ⟨w.heap.size, cs.size, cs, by simp, hB, heap_alloc_new w _, by simp, h, by simp, by rw [Nat.mul_one]; exact List.take_of_length_le (by simp)⟩⟩
theorem Own.mono {B' : Nat} (h : Own w B e a c vs) (hB : B' ≤ B) : Own w B' e a c vs := by
  refine ⟨h.1, ?_⟩
  rcases h.2 with h | ⟨g, cap, cur, h1, h2, h3⟩
  · exact .inl h
  · exact .inr ⟨g, cap, cur, h1, by omega, h3⟩
theorem Own.lt (h : Own w B e a c vs) {k : Nat} (hk : blockOf a = some k) : B ≤ k ∧ k < w.heap.size := World.ownsRow.lt h k (by rw [ownBlock_slice]; exact hk)
theorem Own.same (h : Own w B e a c vs) (hb : ∀ k, blockOf a = some k → w'.heap[k]? = w.heap[k]?) : Own w' B e a c vs := by
  refine ⟨h.1, ?_⟩
  rcases h.2 with h | ⟨g, cap, cur, h1, h2, h3, h4⟩
  · exact .inl h
  · have ha : a = some ⟨g, 0, Option.none⟩ := by injection h1
    exact .inr ⟨g, cap, cur, h1, h2, by rw [hb g (by rw [ha]; rfl)]; exact h3, h4⟩
theorem Own.mod (h : Own w B e a c vs) {D : Nat → Prop} (m : Mod D w w') (hd : ∀ k, blockOf a = some k → ¬ D k) : Own w' B e a c vs :=
  h.same fun k hk => m.block k (h.lt hk).2 (hd k hk)
theorem Own.alloc (h : Own w B e a c vs) (o : Obj) : Own (w.alloc o) B e a c vs := h.mod ((Mod.refl NoBlock w).alloc o) fun _ _ => id
theorem Own.drewN (h : Own w B e a c vs) (n : Nat) : Own (w.drewN n) B e a c vs := h
theorem Own.drew (h : Own w B e a c vs) : Own w.drew B e a c vs := h
theorem Own.grown {D : Nat → Prop} {w0 : World} (h : Own w B e a c vs) (m : Mod D w0 w) (hB : w0.heap.size ≤ B) (hg : w.grownBy w' (blockOf a)) : Mod D w0 w' :=
  m.grown hg fun k hk => .inr (Nat.le_trans hB (h.lt hk).1)
theorem Own.cap (h : Own w B e a c vs) : vs.length ≤ c := by
  rcases h.2 with ⟨_, h0⟩ | ⟨g, cap, cur, h1, _, _, h4, _⟩
  · omega
  · injection h1 with _ _ hc; omega
/-- The head of the row. -/
theorem Own.head (h : Own w B e a c vs) (hn : vs ≠ []) : ∃ g, a = some ⟨g, 0, Option.none⟩ ∧ B ≤ g ∧ g < w.heap.size ∧ (∀ k u, vs[k]? = some u → w.cell? ⟨g, k, Option.none⟩ = some u) ∧ ∀ k, w.frozen? ⟨g, k, Option.none⟩ = false := by
  rcases h.2 with ⟨_, h0⟩ | ⟨g, cap, cur, h1, h2, h3, _⟩
  · exact absurd (List.eq_nil_of_length_eq_zero h0) hn
  · have ha : a = some ⟨g, 0, Option.none⟩ := by injection h1
    refine ⟨g, ha, h2, (Array.getElem?_eq_some_iff.1 h3).1, fun k u hu => ?_, fun k => by simp [World.frozen?, h3]⟩
    have := World.ownsRow.cells h (g := g) (by rw [ownBlock_slice, ha]; rfl) k u hu
    rw [add_plain, Nat.zero_add] at this
    exact this

theorem Own.ints {D : Nat → Prop} {xs : List Int} (h : Own w B e a c (xs.map (Value.int .i64))) (hd : ∀ b, B ≤ b → b < w.heap.size → D b) (hl : xs.length ≤ maxLen) : Ints D w a xs := by
  have h' := h
  unfold Own at h'
  rw [List.length_map] at h'
  exact Ints.of_own rfl h' hd hl
theorem Own.mixes {D : Nat → Prop} {xss : List (List Int)} (h : Own w B e a c vs) (hv : RowVals D w vs xss) (hd : ∀ b, B ≤ b → b < w.heap.size → D b) (hl : xss.length ≤ maxLen) : Mixes D w a xss := by
  have h' := h
  unfold Own at h'
  exact Mixes.of_own hv.1 h' hv hd hl

theorem Src.nil (w : World) (a : Option Addr) : Src w a [] := fun h => absurd rfl h
theorem Src.drewN {news : List Value} (h : Src w a news) (n : Nat) : Src (w.drewN n) a news := h
theorem Src.one (w : World) (x : Value) (t : TypeId) : Src (w.alloc (.cells #[x] t)) (some ⟨w.heap.size, 0, Option.none⟩) [x] := fun _ => ⟨_, rfl, cell_one_new w x t⟩
theorem Src.block {g : Nat} {cs : Array Value} {t : TypeId} {fr : Nat × Nat} (h : w.heap[g]? = some (.cells cs t fr)) : Src w (some ⟨g, 0, Option.none⟩) cs.toList := fun _ => ⟨_, rfl, World.news_of_block h⟩
theorem Src.ints {D : Nat → Prop} {xs : List Int} (h : Ints D w a xs) : Src w a (xs.map (Value.int .i64)) := fun hn => by
  obtain ⟨b, off, ha, _, hc⟩ := h.2 (by intro e; subst e; exact hn rfl)
  refine ⟨_, ha, fun j u hu => ?_⟩
  rw [List.getElem?_map] at hu
  obtain ⟨x, hx, rfl⟩ := Option.map_eq_some_iff.1 hu
  obtain ⟨hj, rfl⟩ := List.getElem?_eq_some_iff.1 hx
  rw [add_plain, (hc j hj).1, ix_eq hj]
/-- A part of a slice of slices: as values. -/
theorem Mixes.vals {D : Nat → Prop} {xss : List (List Int)} (h : Mixes D w a xss) : ∃ vs, RowVals D w vs xss ∧ Src w a vs := by
  by_cases hx : xss = []
  · subst hx; exact ⟨[], RowVals.nil _ _, Src.nil _ _⟩
  · obtain ⟨b, off, ha, _, hc⟩ := h.2 hx
    have : ∀ k, ∃ v, k < xss.length → w.cell? ⟨b, off + k, Option.none⟩ = some v ∧ ∃ a' c', v = .slice a' (rx xss k).length c' ∧ Ints D w a' (rx xss k) := by
      intro k
      by_cases hk : k < xss.length
      · obtain ⟨a', c', h1, h2⟩ := hc k hk; exact ⟨_, fun _ => ⟨h1, a', c', rfl, h2⟩⟩
      · exact ⟨undef, fun h => absurd h hk⟩
    obtain ⟨V, hV⟩ := Classical.axiomOfChoice this
    refine ⟨(List.range xss.length).map V, ⟨by simp, fun k hk => ?_⟩, fun _ => ⟨_, ha, fun j u hu => ?_⟩⟩
    · obtain ⟨_, a', c', h2, h3⟩ := hV k hk
      exact ⟨a', c', by simp [hk, h2], h3⟩
    · rw [List.getElem?_map] at hu
      obtain ⟨x, hx', rfl⟩ := Option.map_eq_some_iff.1 hu
      obtain ⟨hj, rfl⟩ := List.getElem?_eq_some_iff.1 hx'
      simp at hj
      rw [add_plain]; simpa using (hV j hj).1
theorem Src.mod {news : List Value} (h : Src w a news) {D : Nat → Prop} (m : Mod D w w') (hd : ∀ k, blockOf a = some k → ¬ D k) : Src w' a news := fun hn => by
  obtain ⟨ad, rfl, hc⟩ := h hn
  refine ⟨ad, rfl, fun j u hu => m.cell (hc j u hu) ?_⟩
  have : (ad.add j).block = ad.block := by unfold Addr.add; split <;> rfl
  rw [this]; exact hd _ rfl
theorem Src.alloc {news : List Value} (h : Src w a news) (o : Obj) : Src (w.alloc o) a news := h.mod ((Mod.refl NoBlock w).alloc o) fun _ _ => id
/-- The first n of what can be read. -/
theorem Src.take {news : List Value} (h : Src w a news) (n : Nat) : Src w a (news.take n) := fun hn => by
  obtain ⟨ad, ha, hc⟩ := h (by intro e; subst e; simp at hn)
  refine ⟨ad, ha, fun j u hu => hc j u ?_⟩
  rw [List.getElem?_take] at hu
  split at hu
  · exact hu
  · cases hu
end

theorem RowVals.append {D : Nat → Prop} {w : World} {vs vs' : List Value} {xss xss' : List (List Int)} (h : RowVals D w vs xss) (h' : RowVals D w vs' xss') : RowVals D w (vs ++ vs') (xss ++ xss') := by
  refine ⟨by simp [h.1, h'.1], fun k hk => ?_⟩
  by_cases hlt : k < xss.length
  · obtain ⟨a, c, h1, h2⟩ := h.2 k hlt
    have e : rx (xss ++ xss') k = rx xss k := by simp [rx, List.getElem?_append_left hlt]
    rw [e]
    exact ⟨a, c, by rw [List.getElem?_append_left (by rw [h.1]; exact hlt)]; exact h1, h2⟩
  · obtain ⟨a, c, h1, h2⟩ := h'.2 (k - xss.length) (by simp at hk; omega)
    have e : rx (xss ++ xss') k = rx xss' (k - xss.length) := by simp [rx, List.getElem?_append_right (Nat.le_of_not_lt hlt)]
    rw [e]
    exact ⟨a, c, by rw [List.getElem?_append_right (by rw [h.1]; omega), h.1]; exact h1, h2⟩
theorem RowVals.take {D : Nat → Prop} {w : World} {vs : List Value} {xss : List (List Int)} (h : RowVals D w vs xss) (n : Nat) : RowVals D w (vs.take n) (xss.take n) := by
  refine ⟨by simp [h.1], fun k hk => ?_⟩
  have hk2 : k < n ∧ k < xss.length := by simp at hk; omega
  obtain ⟨a, c, h1, h2⟩ := h.2 k hk2.2
  have e : rx (xss.take n) k = rx xss k := by simp [rx, List.getElem?_take, hk2.1]
  rw [e]
  exact ⟨a, c, by rw [List.getElem?_take, if_pos hk2.1]; exact h1, h2⟩
theorem RowVals.single {D : Nat → Prop} {w : World} {a : Option Addr} {xs : List Int} (h : Ints D w a xs) (c : Nat) : RowVals D w [.slice a xs.length c] [xs] :=
  ⟨rfl, fun k hk => by obtain rfl : k = 0 := by simp at hk; omega
                       exact ⟨a, c, rfl, h⟩⟩

/-- The rows xss, collected in a slice of the call's own; none of them lies in that slice's block. -/
def OwnRows (w : World) (B e : Nat) (a : Option Addr) (c : Nat) (xss : List (List Int)) : Prop :=
  ∃ vs, Own w B e a c vs ∧ RowVals (fun b => B ≤ b ∧ some b ≠ blockOf a) w vs xss

theorem OwnRows.nil (w : World) (B e : Nat) : OwnRows w B e Option.none 0 [] := ⟨[], Own.nil w B e, RowVals.nil _ _⟩
theorem OwnRows.snoc {w W w' : World} {B e c' : Nat} {a a' ar : Option Addr} {vs : List Value} {xss : List (List Int)} {xs : List Int} {cr : Nat}
    (h2 : RowVals (fun b => B ≤ b ∧ some b ≠ blockOf a) w vs xss) (hx : Ints (fun b => B ≤ b ∧ some b ≠ blockOf a) w ar xs) (hW : Mod NoBlock w W)
    (ho : Own w' B e a' c' (vs ++ [.slice ar xs.length cr])) (hg : W.grownBy w' (blockOf a)) (ha : blockOf a' = blockOf a ∨ blockOf a' = some W.heap.size) : OwnRows w' B e a' c' (xss ++ [xs]) := by
  refine ⟨_, ho, ?_⟩
  have hm : Mod (fun b => some b = blockOf a) w w' := hW.only.grown hg (fun k hk => .inl hk.symm)
  have h3 : RowVals (fun b => (B ≤ b ∧ some b ≠ blockOf a) ∧ b < w.heap.size) w (vs ++ [.slice ar xs.length cr]) (xss ++ [xs]) := (h2.mono fun b hb hd => ⟨hd, hb⟩).snoc hx.lt
  refine (h3.mod hm fun b _ hb e => hb.1.2 e).mono fun b _ hb => ⟨hb.1.1, fun e => ?_⟩
  rcases ha with ha | ha
  · exact hb.1.2 (by rw [← ha]; exact e)
  · rw [ha] at e; injection e with e; have := hW.size; omega
theorem OwnRows.mixes {w : World} {B e c : Nat} {a : Option Addr} {xss : List (List Int)} {D : Nat → Prop} (h : OwnRows w B e a c xss) (hd : ∀ b, B ≤ b → b < w.heap.size → D b) (hl : xss.length ≤ maxLen) : Mixes D w a xss := by
  obtain ⟨vs, h1, h2⟩ := h
  exact h1.mixes (h2.mono fun b hb hh => hd b hh.1 hb) hd hl
theorem OwnRows.cap {w : World} {B e c : Nat} {a : Option Addr} {xss : List (List Int)} (h : OwnRows w B e a c xss) : xss.length ≤ c := by
  obtain ⟨vs, h1, h2⟩ := h
  have := h1.cap
  rw [h2.1] at this
  exact this
theorem OwnRows.mod {w w' : World} {B e c : Nat} {a : Option Addr} {xss : List (List Int)} {D : Nat → Prop} (h : OwnRows w B e a c xss) (m : Mod D w w') (hd : ∀ b, b < w.heap.size → B ≤ b → ¬ D b) : OwnRows w' B e a c xss := by
  obtain ⟨vs, h1, h2⟩ := h
  exact ⟨vs, h1.mod m (fun k hk => hd k (h1.lt hk).2 (h1.lt hk).1), h2.mod m fun b hb hh => hd b hb hh.1⟩

section
variable {P : Program} {w : World} {B e c : Nat} {a : Option Addr} {vs : List Value}

theorem run_append1 {t ty bytes : Nat} (hE : Elem1 P t e bytes) (hown : Own w B e a c vs) {a2 : Option Addr} {news : List Value} (c2 : Nat) (hsrc : Src w a2 news) (h1 : ∀ u ∈ news, u.oneCell' = true)
    (h63 : vs.length + news.length ≤ maxLen) (hb : (vs.length + news.length) * bytes ≤ 140737488355328) (hB : B ≤ w.heap.size) :
    ∃ a' c' w', (Builtin.append_ #[t, t] ty #[.slice a vs.length c, .slice a2 news.length c2]).run P w = .ok (.slice a' (vs ++ news).length c') w' ∧ Own w' B e a' c' (vs ++ news) ∧ w.grownBy w' (blockOf a) ∧
      (blockOf a' = blockOf a ∨ blockOf a' = some w.heap.size) := by
  obtain ⟨ht, i, z, hi, hz, hs, hby, hzs⟩ := hE
  by_cases hn : news = []
  · subst hn
    refine ⟨a, c, w, ?_, by simpa using hown, World.grownBy.refl w _, .inl rfl⟩
    rcases hown.2 with ⟨hv, h0⟩ | ⟨g, cap, cur, hv, _, hg, hnc, hcm, hcs, _⟩
    · have hvs : vs = [] := List.eq_nil_of_length_eq_zero h0
      subst hvs
      injection hv with ha _ hc
      subst ha; subst hc
      cases a2 <;> simp [Builtin.append_, run_underlying ht, sizeOf, typeInfo, hi, Builtin.lenOf, Builtin.firstCells, loadCells, loadCellsFrom]
    · injection hv with ha hl hc
      subst ha; subst hc
      cases a2 <;> simp [Builtin.append_, run_underlying ht, sizeOf, typeInfo, hi, Builtin.lenOf, Builtin.firstCells, loadCells, loadCellsFrom, hnc, storeCells]
  · obtain ⟨ad, rfl, hc⟩ := hsrc hn
    obtain ⟨v', w', hr, h2, h3, _, h5⟩ := run_append_own_at (P := P) w B t ty e i z 1 bytes ht hi hz hs hby hzs (by omega) (.slice a vs.length c) vs.length vs hown ad news.length c2 news (by simp) hc h1 h63 hb hB
    rw [← List.length_append] at h2
    have hv : ∃ a' c', v' = .slice a' (vs ++ news).length c' := by
      rcases h2.2 with ⟨e, h0⟩ | ⟨g, cap, cur, hv, _⟩
      · exact ⟨_, _, by rw [h0]; exact e⟩
      · exact ⟨_, _, hv⟩
    obtain ⟨a', c', rfl⟩ := hv
    rw [ownBlock_slice] at h3 h5
    rw [ownBlock_slice] at h5
    exact ⟨a', c', w', hr, h2, h3, h5⟩

/-- As a law for the walk. N, n, m: the lengths as the slots spell them. -/
theorem wpList_append1 {ops : Array Oper} {rest : List Oper} {o : Oper} {act : Act} {Q : Exit → Act → World → Prop} (hgd : o.guard = none) (s x : Operand) (t : TypeId)
    (ho : o.op = .call { callee := .builtin .append, args := #[s, x], argTypes := #[t, t] })
    {bytes : Nat} (hE : Elem1 P t e bytes) (n m N c2 : Nat) {a2 : Option Addr} (news : List Value)
    (hs : act.eval s = .slice a n c) (hx : act.eval x = .slice a2 m c2) (hn : n = vs.length) (hm : m = news.length) (hN : N = n + m)
    (hown : Own w B e a c vs) (hsrc : Src w a2 news) (h1 : ∀ u ∈ news, u.oneCell' = true)
    (h63 : N ≤ maxLen) (hb : N * bytes ≤ 140737488355328) (hB : B ≤ w.heap.size)
    (h : ∀ a' c' w', Own w' B e a' c' (vs ++ news) → w.grownBy w' (blockOf a) → (blockOf a' = blockOf a ∨ blockOf a' = some w.heap.size) → wpList P ops Q rest (act.put o.dst (.slice a' N c')) w') :
    wpList P ops Q (o :: rest) act w := by
  subst hn; subst hm; subst hN
  refine wpList_plain hgd fun K hK => ?_
  obtain ⟨a', c', w', hr, h2, h3, h4⟩ := run_append1 (P := P) (ty := o.type) hE hown c2 hsrc h1 h63 hb hB
  unfold Oper.wp execOp
  simp only [ho, resolve, invoke, builtin, Sem.run_bind, Sem.run_pure, Result.andThen_ok, List.map_toArray, List.map_cons, List.map_nil, hs, hx, hr]
  rw [List.length_append]
  exact hK _ _ (h a' c' w' h2 h3 h4)

/-- As a step of a region that draws its order. -/
theorem step_append1 {ops : Array Oper} {o : Oper} {act : Act} {K : Act → World → Prop} {Q : Exit → Act → World → Prop} {E : Prop} (hgd : o.guard = none) (s x : Operand) (t : TypeId)
    (ho : o.op = .call { callee := .builtin .append, args := #[s, x], argTypes := #[t, t] })
    {bytes : Nat} (hE : Elem1 P t e bytes) (n m N c2 : Nat) {a2 : Option Addr} (news : List Value)
    (hs : act.eval s = .slice a n c) (hx : act.eval x = .slice a2 m c2) (hn : n = vs.length) (hm : m = news.length) (hN : N = n + m)
    (hown : Own w B e a c vs) (hsrc : Src w a2 news) (h1 : ∀ u ∈ news, u.oneCell' = true)
    (h63 : N ≤ maxLen) (hb : N * bytes ≤ 140737488355328) (hB : B ≤ w.heap.size)
    (h : ∀ a' c' w', Own w' B e a' c' (vs ++ news) → w.grownBy w' (blockOf a) → (blockOf a' = blockOf a ∨ blockOf a' = some w.heap.size) → K (act.put o.dst (.slice a' N c')) w') :
    if Region.wanted o (yielded ops act.tmps) = true then Oper.wp P o act w K Q else E := by
  have hw : Region.wanted o (yielded ops act.tmps) = true := by simp [Region.wanted, hgd]
  rw [if_pos hw]
  subst hn; subst hm; subst hN
  obtain ⟨a', c', w', hr, h2, h3, h4⟩ := run_append1 (P := P) (ty := o.type) hE hown c2 hsrc h1 h63 hb hB
  unfold Oper.wp execOp
  simp only [ho, resolve, invoke, builtin, Sem.run_bind, Sem.run_pure, Result.andThen_ok, List.map_toArray, List.map_cons, List.map_nil, hs, hx, hr]
  rw [List.length_append]
  exact h a' c' w' h2 h3 h4
end

end Go.Proofs.Ytnpdkpbecmpdbaa
