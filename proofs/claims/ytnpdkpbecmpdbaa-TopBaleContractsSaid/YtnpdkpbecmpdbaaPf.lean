/-
  bale.Press: what lies in memory: the rest of the mix, and the bales so far; a copy and an append.
-/
import Derived.Test.YtnpdkpbecmpdbaaPe
import Derived.Test.YtnpdkpbecmpdbaaKa
import Derived.Test.YtnpdkpbecmpdbaaOpen
import Derived.Laws.CopyOwn
set_option linter.unusedVariables false
set_option linter.unusedSimpArgs false
namespace Go.Proofs.Ytnpdkpbecmpdbaa
open Go.RowKit

/-- A copy of numbers into a row of the call's own, as long as they are many. -/
theorem wpList_copy_ints {P : Program} {w : World} {ops : Array Oper} {rest : List Oper} {o : Oper} {a : Act} {Q : Exit → Act → World → Prop} (hgd : o.guard = none) (d s : Operand) (dT sT : TypeId)
    (ho : o.op = .call { callee := .builtin .copy, args := #[d, s], argTypes := #[dT, sT] }) (elem : TypeId) (hu : P.underlying dT = some (.slice elem)) (hsz : (P.info? elem).map (·.size) = some 1)
    (g : Nat) (sp : Option Addr) (sCap n : Nat) {D : Nat → Prop} {xs : List Int} (hd : a.eval d = .slice (some ⟨g, 0, none⟩) n n) (hs : a.eval s = .slice sp n sCap) (hn : xs.length = n)
    (hx : Ints D w sp xs) {t : TypeId} {f : Nat → Value} (hrow : w.rowIs g t n f) (w0 : World) (hm : Mod NoBlock w0 w) (hg : w0.heap.size ≤ g)
    (h : ∀ w', w'.rowIs g t n (fun j => .int .i64 (ix xs j)) → Mod NoBlock w0 w' → wpList P ops Q rest (a.put o.dst (goInt n)) w') : wpList P ops Q (o :: rest) a w := by
  subst hn
  obtain ⟨c, hb, hc, _⟩ := hrow
  obtain ⟨_, b, off, ha, hcell⟩ := hx.open
  have hlen := rowV_length xs.length (ix xs)
  refine wpList_copy_splice hgd d s dT sT ho elem hu hsz _ sp xs.length xs.length xs.length sCap hd hs g 0 c.toList t (by rw [Array.toArray_toList]; exact hb) (rowV xs.length (ix xs)) (by rw [hlen]; exact (Nat.min_self _).symm) (fun hp => ⟨rfl, ?_⟩) (by rw [hlen]; simp [hc]) (fun v hv => ?_) w0.heap.size w0 hm.below hg fun w' h1 h2 => ?_
  · refine ⟨_, ha (by intro e; rw [hlen, e] at hp; simp at hp), fun j v hv => ?_⟩
    have hj : j < xs.length := by
      obtain ⟨hj, _⟩ := List.getElem?_eq_some_iff.1 hv
      rw [hlen] at hj
      exact hj
    rw [rowV_get hj] at hv
    rw [add_plain]
    exact (hcell j hj).trans hv
  · unfold rowV at hv
    obtain ⟨_, _, rfl⟩ := List.mem_map.1 hv
    rfl
  · rw [hlen]
    refine h w' ⟨_, h1.out, ?_, fun i hi => ?_⟩ (Mod.of_below h2)
    · simp only [List.size_toArray]
      rw [length_splice _ _ _ (by rw [hlen]; simp [hc])]
      simp [hc]
    · have e : splice c.toList 0 (rowV xs.length (ix xs)) = rowV xs.length (ix xs) := by
        unfold splice
        rw [hlen, List.take_zero, List.nil_append, Nat.zero_add, List.drop_of_length_le (by simp [hc]), List.append_nil]
      rw [e]
      simpa using rowV_get hi

/-- An append of a bale to a row of the call's own. -/
theorem wpList_append4 {P : Program} {w : World} {ops : Array Oper} {rest : List Oper} {o : Oper} {act : Act} {Q : Exit → Act → World → Prop} (hgd : o.guard = none) (s x : Operand) (t : TypeId)
    (ho : o.op = .call { callee := .builtin .append, args := #[s, x], argTypes := #[t, t] }) {e : TypeId} (ht : P.underlying t = some (.slice e)) {z : Value} {bytes : Nat} (hi : (P.info? e).map (fun i => (i.zero, i.size, i.bytes)) = some (some z, 4, bytes)) (hz : z.cells.size = 4)
    {B n c : Nat} {a : Option Addr} {vs : List Value} (N c2 g2 : Nat) (u1 u2 u3 u4 : Value) (hs : act.eval s = .slice a n c) (hx : act.eval x = .slice (some ⟨g2, 0, none⟩) 1 c2) (hN : N = n + 1)
    (hown : w.ownsRow B e 4 (.slice a n c) n vs) {tt : TypeId} (hrow : w.rowIs g2 tt 4 (fun i => (#[u1, u2, u3, u4] : Array Value).getD i undef)) (h1 : ∀ u ∈ [u1, u2, u3, u4], u.oneCell' = true)
    (h63 : N ≤ maxLen) (hb : N * bytes ≤ 140737488355328) (hB : B ≤ w.heap.size)
    (h : ∀ a' c' w', w'.ownsRow B e 4 (.slice a' N c') N (vs ++ [u1, u2, u3, u4]) → w.grownBy w' (blockOf a) → (blockOf a' = blockOf a ∨ blockOf a' = some w.heap.size) → wpList P ops Q rest (act.put o.dst (.slice a' N c')) w') :
    wpList P ops Q (o :: rest) act w := by
  subst hN
  refine wpList_plain hgd fun K hK => ?_
  obtain ⟨i, hi1, hi2⟩ := Option.map_eq_some_iff.1 hi
  simp only [Prod.mk.injEq] at hi2
  obtain ⟨v', w', hr, r2, r3, _, r5⟩ := run_append_own_at (P := P) (w := w) B t o.type e i z 4 bytes ht hi1 hi2.1 hi2.2.1 hi2.2.2 hz (by omega) (.slice a n c) n vs hown ⟨g2, 0, none⟩ 1 c2 [u1, u2, u3, u4] rfl (fun j u hu => by
    have hj : j < 4 := (List.getElem?_eq_some_iff.1 hu).1
    rw [add_plain, Nat.zero_add, hrow.cell hj]
    rcases (by omega : j = 0 ∨ j = 1 ∨ j = 2 ∨ j = 3) with rfl | rfl | rfl | rfl <;> exact hu) h1 h63 hb hB
  have hv : ∃ a' c', v' = .slice a' (n + 1) c' := by
    rcases r2.2 with ⟨_, h0⟩ | ⟨g, cap, cur, hv, _⟩
    · exact absurd h0 (by omega)
    · exact ⟨_, _, hv⟩
  obtain ⟨a', c', rfl⟩ := hv
  rw [ownBlock_slice] at r3 r5
  rw [ownBlock_slice] at r5
  unfold Oper.wp execOp
  simp only [ho, resolve, invoke, builtin, Sem.run_bind, Sem.run_pure, Result.andThen_ok, List.map_toArray, List.map_cons, List.map_nil, hs, hx, hr]
  exact hK _ _ (h a' c' w' r2 r3 r5)

theorem infoBal : (Try.prog.info? 60).map (fun i => (i.zero, i.size, i.bytes)) = some (some (.agg #[.int .i64 0, .int .i64 0, .int .i64 0, .slice none 0 0]), 4, 48) := by kernel_rfl

/-- The cells of bales, whose mixes lie in blocks of D. -/
def ValsB (D : Nat → Prop) (w : World) (vs : List Value) (bs : List Bal) : Prop :=
  vs.length = bs.length * 4 ∧ ∀ k, k < bs.length → ∃ a' c', vs[k * 4]? = some (.int .i64 (bx bs k).id) ∧ vs[k * 4 + 1]? = some (.int .i64 (bx bs k).mat) ∧ vs[k * 4 + 2]? = some (.int .i64 (bx bs k).tm) ∧ vs[k * 4 + 3]? = some (.slice a' (bx bs k).mix.length c') ∧ Ints D w a' (bx bs k).mix
section
variable {D D' : Nat → Prop} {w w' : World} {vs : List Value} {bs : List Bal}
theorem ValsB.nil (D : Nat → Prop) (w : World) : ValsB D w [] [] := ⟨rfl, fun k hk => absurd hk (Nat.not_lt_zero k)⟩
theorem ValsB.mod (h : ValsB D w vs bs) {E : Nat → Prop} (m : Mod E w w') (hd : ∀ b, b < w.heap.size → D b → ¬ E b) : ValsB D w' vs bs :=
  ⟨h.1, fun k hk => let ⟨a, c, h1, h2, h3, h4, h5⟩ := h.2 k hk; ⟨a, c, h1, h2, h3, h4, h5.mod m hd⟩⟩
theorem ValsB.mono (h : ValsB D w vs bs) (hd : ∀ b, b < w.heap.size → D b → D' b) : ValsB D' w vs bs :=
  ⟨h.1, fun k hk => let ⟨a, c, h1, h2, h3, h4, h5⟩ := h.2 k hk; ⟨a, c, h1, h2, h3, h4, h5.mono hd⟩⟩
theorem ValsB.snoc (h : ValsB D w vs bs) {y : Bal} {a : Option Addr} {c : Nat} (hy : Ints D w a y.mix) : ValsB D w (vs ++ [.int .i64 y.id, .int .i64 y.mat, .int .i64 y.tm, .slice a y.mix.length c]) (bs ++ [y]) := by
  refine ⟨by simp [h.1]; omega, fun k hk => ?_⟩
  rw [List.length_append] at hk
  simp only [List.length_cons, List.length_nil] at hk
  by_cases hkn : k < bs.length
  · have e : bx (bs ++ [y]) k = bx bs k := by simp [bx, List.getElem?_append_left hkn]
    rw [e]
    obtain ⟨a1, c1, e1, e2, e3, e4, e5⟩ := h.2 k hkn
    have l : ∀ j, j < 4 → (vs ++ [.int .i64 y.id, .int .i64 y.mat, .int .i64 y.tm, .slice a y.mix.length c])[k * 4 + j]? = vs[k * 4 + j]? := fun j hj => List.getElem?_append_left (by rw [h.1]; omega)
    exact ⟨a1, c1, (l 0 (by omega)).trans e1, (l 1 (by omega)).trans e2, (l 2 (by omega)).trans e3, (l 3 (by omega)).trans e4, e5⟩
  · obtain rfl : k = bs.length := by omega
    have e : bx (bs ++ [y]) bs.length = y := by simp [bx]
    rw [e]
    have l : ∀ j, (vs ++ [.int .i64 y.id, .int .i64 y.mat, .int .i64 y.tm, .slice a y.mix.length c])[bs.length * 4 + j]? = ([.int .i64 y.id, .int .i64 y.mat, .int .i64 y.tm, .slice a y.mix.length c] : List Value)[j]? := fun j => by
      rw [List.getElem?_append_right (by rw [h.1]; omega), h.1, Nat.add_sub_cancel_left]
    exact ⟨a, c, l 0, l 1, l 2, l 3, hy⟩
end

/-- Press under way: the rest of the mix (block g), the bales so far. -/
structure PrS (W wr : World) (g m : Nat) (R : Nat → Int) (a : Option Addr) (c : Nat) (vs : List Value) (bs : List Bal) : Prop where
  mod : Mod NoBlock W wr
  row : wr.rowIs g 3 m (fun j => .int .i64 (R j))
  own : wr.ownsRow W.heap.size 60 4 (.slice a bs.length c) bs.length vs
  vals : ValsB (fun b => b ≠ g ∧ some b ≠ blockOf a) wr vs bs
  ge : W.heap.size ≤ g
  ne : some g ≠ blockOf a
section
variable {W wr w' : World} {g m c : Nat} {R : Nat → Int} {a : Option Addr} {vs : List Value} {bs : List Bal}
theorem own_block {w : World} {B e size n c : Nat} {a : Option Addr} {xs : List Value} (h : w.ownsRow B e size (.slice a n c) n xs) {k : Nat} (hk : blockOf a = some k) : B ≤ k ∧ k < w.heap.size := World.ownsRow.lt h k (by rw [ownBlock_slice]; exact hk)
theorem own_same {w w' : World} {B e size n c : Nat} {a : Option Addr} {xs : List Value} (h : w.ownsRow B e size (.slice a n c) n xs) (hb : ∀ k, blockOf a = some k → w'.heap[k]? = w.heap[k]?) : w'.ownsRow B e size (.slice a n c) n xs := by
  refine ⟨h.1, ?_⟩
  rcases h.2 with h | ⟨g, cap, cur, h1, h2, h3, h4⟩
  · exact .inl h
  · have ha : a = some ⟨g, 0, none⟩ := by injection h1
    exact .inr ⟨g, cap, cur, h1, h2, by rw [hb g (by rw [ha]; rfl)]; exact h3, h4⟩
theorem PrS.start (hm : Mod NoBlock W wr) (hr : wr.rowIs g 3 m (fun j => .int .i64 (R j))) (hg : W.heap.size ≤ g) : PrS W wr g m R none 0 [] [] :=
  ⟨hm, hr, World.ownsRow_nil _ _ _ _, ValsB.nil _ _, hg, by simp [blockOf]⟩
theorem PrS.congr {R' : Nat → Int} (h : PrS W wr g m R a c vs bs) (e : ∀ j, j < m → R j = R' j) : PrS W wr g m R' a c vs bs :=
  ⟨h.mod, h.row.congr fun j hj => by rw [e j hj], h.own, h.vals, h.ge, h.ne⟩
theorem PrS.frame (h : PrS W wr g m R a c vs bs) (hm : Mod NoBlock wr w') : PrS W w' g m R a c vs bs :=
  ⟨h.mod.trans hm, h.row.of_block (hm.block _ h.row.lt id), own_same h.own (fun k hk => hm.block k (own_block h.own hk).2 id), h.vals.mod hm (fun _ _ _ => id), h.ge, h.ne⟩
theorem PrS.set (h : PrS W wr g m R a c vs bs) {k : Nat} {x : Int} {R' : Nat → Int} (hx : k < m → x = R' k) (hf : ∀ j, j < m → j ≠ k → R j = R' j) : PrS W (wr.setCell ⟨g, k, none⟩ (.int .i64 x)) g m R' a c vs bs := by
  have m1 : Mod (fun b => b = g) wr (wr.setCell ⟨g, k, none⟩ (.int .i64 x)) := (Mod.refl _ _).set1 k _
  refine ⟨h.mod.setCell (p := ⟨g, k, none⟩) (.inr h.ge) _, set_row h.row (fun hk => by rw [hx hk]) (fun j hj e => by rw [hf j hj e]), own_same h.own (fun k hk => m1.block k (own_block h.own hk).2 (fun e => h.ne (by rw [hk, show k = g from e]))), h.vals.mod m1 (fun b _ hb e => hb.1 e), h.ge, h.ne⟩
theorem PrS.push (h : PrS W wr g m R a c vs bs) {W2 : World} {a' b1 : Option Addr} {c' d1 : Nat} {y : Bal} (hy : Ints (fun b => b ≠ g ∧ some b ≠ blockOf a) wr b1 y.mix) (hW : Mod NoBlock wr W2)
    (ho : w'.ownsRow W.heap.size 60 4 (.slice a' (bs.length + 1) c') (bs.length + 1) (vs ++ [.int .i64 y.id, .int .i64 y.mat, .int .i64 y.tm, .slice b1 y.mix.length d1])) (hg : W2.grownBy w' (blockOf a)) (ha : blockOf a' = blockOf a ∨ blockOf a' = some W2.heap.size) :
    PrS W w' g m R a' c' (vs ++ [.int .i64 y.id, .int .i64 y.mat, .int .i64 y.tm, .slice b1 y.mix.length d1]) (bs ++ [y]) := by
  have hlen : (bs ++ [y]).length = bs.length + 1 := by simp
  have hm : Mod (fun b => some b = blockOf a) wr w' := hW.only.grown hg (fun k hk => .inl hk.symm)
  have hne : ∀ b, b < wr.heap.size → some b ≠ blockOf a → some b ≠ blockOf a' := fun b hb h1 e => by
    rcases ha with ha | ha
    · exact h1 (by rw [← ha]; exact e)
    · rw [ha] at e; injection e with e; have := hW.size; omega
  refine ⟨(h.mod.trans hW).grown hg (fun k hk => .inr (own_block h.own hk).1), h.row.of_block (hm.block _ h.row.lt h.ne), by rw [hlen]; exact ho, ?_, h.ge, hne g h.row.lt h.ne⟩
  have h3 := (h.vals.mono (D' := fun b => (b ≠ g ∧ some b ≠ blockOf a) ∧ b < wr.heap.size) fun b hb hd => ⟨hd, hb⟩).snoc (c := d1) hy.lt
  exact (h3.mod hm fun b _ hb e => hb.1.2 e).mono fun b _ hb => ⟨hb.1.1, hne b hb.2 hb.1.2⟩
theorem PrS.bals (h : PrS W wr g m R a c vs bs) (hl : bs.length ≤ maxLen) : Bals Any wr a bs := by
  refine ⟨hl, fun hn => ?_⟩
  rcases h.own.2 with ⟨_, h0⟩ | ⟨g', cap, cur, hv', hb, hg, _⟩
  · exact absurd (List.eq_nil_of_length_eq_zero h0) hn
  · have ha : a = some ⟨g', 0, none⟩ := by injection hv'
    subst ha
    refine ⟨g', 0, rfl, trivial, fun k hk => ?_⟩
    obtain ⟨a1, c1, e1, e2, e3, e4, e5⟩ := h.vals.2 k hk
    have cc : ∀ j u, vs[j]? = some u → wr.cell? ⟨g', 0 + j, none⟩ = some u := fun j u hu => by
      have := World.ownsRow.cells h.own (g := g') (by rw [ownBlock_slice]; rfl) _ _ hu
      rwa [add_plain] at this
    exact ⟨a1, c1, cc _ _ e1, by rw [Nat.add_assoc]; exact cc _ _ e2, by rw [Nat.add_assoc]; exact cc _ _ e3, by rw [Nat.add_assoc]; exact cc _ _ e4, e5.mono fun _ _ _ => trivial⟩
end

/-- What Press returns. -/
def PressRes (w : World) (e : Ending) (w' : World) : Prop :=
  ∃ (aB : Option Addr) (cB : Nat) (bs : List Bal) (aR : Option Addr) (nR cR : Nat) (er : Int), e = .returned (.tuple #[.slice aB bs.length cB, .slice aR nR cR, .int .i64 er]) ∧ Mod NoBlock w w' ∧ (er = 0 → Bals Any w' aB bs)
theorem PressRes.bad {w w' : World} {er : Int} (m : Mod NoBlock w w') (h : er ≠ 0) : PressRes w (.returned (.tuple #[.slice none 0 0, .slice none 0 0, .int .i64 er])) w' := ⟨none, 0, [], none, 0, 0, er, rfl, m, fun e => absurd e h⟩

end Go.Proofs.Ytnpdkpbecmpdbaa
