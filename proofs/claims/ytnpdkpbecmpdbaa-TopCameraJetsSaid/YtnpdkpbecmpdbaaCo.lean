/-
  camera: rows of carries of the reference (elements of two cells): appends, and how they lie in memory.
-/
import Derived.Test.YtnpdkpbecmpdbaaCn
set_option linter.unusedVariables false
set_option linter.unusedSimpArgs false
namespace Go.Proofs.Ytnpdkpbecmpdbaa
open Go.RowKit

def Elem2 (P : Program) (t e : TypeId) (bytes : Nat) : Prop :=
  P.underlying t = some (.slice e) ∧ ∃ i z, P.info? e = some i ∧ i.zero = some z ∧ i.size = 2 ∧ i.bytes = bytes ∧ z.cells.size = 2
theorem Elem2.mk {P : Program} {t e : TypeId} {z : Value} {bytes : Nat} (ht : P.underlying t = some (.slice e)) (hi : (P.info? e).map (fun i => (i.zero, i.size, i.bytes)) = some (some z, 2, bytes)) (hz : z.cells.size = 2) : Elem2 P t e bytes := by
  obtain ⟨i, h, h2⟩ := Option.map_eq_some_iff.1 hi
  simp only [Prod.mk.injEq] at h2
  exact ⟨ht, i, z, h, h2.1, h2.2.1, h2.2.2, hz⟩

/-- A row of the call's own of n elements of two cells. -/
def Own2 (w : World) (B e : Nat) (a : Option Addr) (c n : Nat) (vs : List Value) : Prop := w.ownsRow B e 2 (.slice a n c) n vs
theorem Own2.lt {w : World} {B e c n : Nat} {a : Option Addr} {vs : List Value} (h : Own2 w B e a c n vs) {k : Nat} (hk : blockOf a = some k) : B ≤ k ∧ k < w.heap.size := World.ownsRow.lt h k (by rw [ownBlock_slice]; exact hk)
theorem Own2.away {w : World} {B e b c n : Nat} {a : Option Addr} {vs : List Value} (h : Own2 w B e a c n vs) (hb : b < B) : some b ≠ blockOf a := fun e => by
  have := (h.lt e.symm).1
  omega
theorem Own2.same {w w' : World} {B e c n : Nat} {a : Option Addr} {vs : List Value} (h : Own2 w B e a c n vs) (hb : ∀ k, blockOf a = some k → w'.heap[k]? = w.heap[k]?) : Own2 w' B e a c n vs := by
  refine ⟨h.1, ?_⟩
  rcases h.2 with h | ⟨g, cap, cur, h1, h2, h3, h4⟩
  · exact .inl h
  · have ha : a = some ⟨g, 0, Option.none⟩ := by injection h1
    exact .inr ⟨g, cap, cur, h1, h2, by rw [hb g (by rw [ha]; rfl)]; exact h3, h4⟩
theorem Own2.mod {w w' : World} {B e c n : Nat} {a : Option Addr} {vs : List Value} (h : Own2 w B e a c n vs) {D : Nat → Prop} (m : Mod D w w') (hd : ∀ k, blockOf a = some k → ¬ D k) : Own2 w' B e a c n vs :=
  h.same fun k hk => m.block k (h.lt hk).2 (hd k hk)
theorem Own2.alloc {w : World} {B e c n : Nat} {a : Option Addr} {vs : List Value} (h : Own2 w B e a c n vs) (o : Obj) : Own2 (w.alloc o) B e a c n vs := h.mod ((Mod.refl NoBlock w).alloc o) fun _ _ => id
theorem Own2.nil (w : World) (B e : Nat) : Own2 w B e Option.none 0 0 [] := World.ownsRow_nil w B e 2

def Src2 (w : World) (a : Option Addr) (u1 u2 : Value) : Prop := ∃ ad, a = some ad ∧ ∀ j u, [u1, u2][j]? = some u → w.cell? (ad.add j) = some u
theorem Src2.one (w : World) (u1 u2 : Value) (t : TypeId) : Src2 (w.alloc (.cells #[u1, u2] t)) (some ⟨w.heap.size, 0, none⟩) u1 u2 := ⟨_, rfl, fun j u h => by
  have : (⟨w.heap.size, 0, none⟩ : Addr).add j = ⟨w.heap.size, 0 + j, none⟩ := by unfold Addr.add; split <;> simp_all
  rw [this]
  exact cell_new w #[u1, u2] _ j _ (by simpa using h)⟩

section
variable {P : Program} {w : World} {B e c n : Nat} {a : Option Addr} {vs : List Value}
theorem run_append2 {t ty bytes : Nat} (hE : Elem2 P t e bytes) (hown : Own2 w B e a c n vs) {a2 : Option Addr} {u1 u2 : Value} (c2 : Nat) (hsrc : Src2 w a2 u1 u2) (h1 : u1.oneCell' = true ∧ u2.oneCell' = true)
    (h63 : n + 1 ≤ maxLen) (hb : (n + 1) * bytes ≤ 140737488355328) (hB : B ≤ w.heap.size) :
    ∃ a' c' w', (Builtin.append_ #[t, t] ty #[.slice a n c, .slice a2 1 c2]).run P w = .ok (.slice a' (n + 1) c') w' ∧ Own2 w' B e a' c' (n + 1) (vs ++ [u1, u2]) ∧ w.grownBy w' (blockOf a) ∧
      (blockOf a' = blockOf a ∨ blockOf a' = some w.heap.size) := by
  obtain ⟨ht, i, z, hi, hz, hs, hby, hzs⟩ := hE
  obtain ⟨ad, rfl, hc⟩ := hsrc
  obtain ⟨v', w', hr, h2, h3, _, h5⟩ := run_append_own_at (P := P) w B t ty e i z 2 bytes ht hi hz hs hby hzs (by omega) (.slice a n c) n vs hown ad 1 c2 [u1, u2] (by simp) hc (fun u hu => by simp at hu; exact hu.elim (fun e => e ▸ h1.1) (fun e => e ▸ h1.2)) h63 hb hB
  have hv : ∃ a' c', v' = .slice a' (n + 1) c' := by
    rcases h2.2 with ⟨e, h0⟩ | ⟨g, cap, cur, hv, _⟩
    · exact absurd h0 (by omega)
    · exact ⟨_, _, hv⟩
  obtain ⟨a', c', rfl⟩ := hv
  rw [ownBlock_slice] at h3 h5
  rw [ownBlock_slice] at h5
  exact ⟨a', c', w', hr, h2, h3, h5⟩

theorem wpList_append2 {ops : Array Oper} {rest : List Oper} {o : Oper} {act : Act} {Q : Exit → Act → World → Prop} (hgd : o.guard = none) (s x : Operand) (t : TypeId)
    (ho : o.op = .call { callee := .builtin .append, args := #[s, x], argTypes := #[t, t] })
    {bytes : Nat} (hE : Elem2 P t e bytes) (N c2 : Nat) {a2 : Option Addr} (u1 u2 : Value)
    (hs : act.eval s = .slice a n c) (hx : act.eval x = .slice a2 1 c2) (hN : N = n + 1)
    (hown : Own2 w B e a c n vs) (hsrc : Src2 w a2 u1 u2) (h1 : u1.oneCell' = true ∧ u2.oneCell' = true)
    (h63 : N ≤ maxLen) (hb : N * bytes ≤ 140737488355328) (hB : B ≤ w.heap.size)
    (h : ∀ a' c' w', Own2 w' B e a' c' N (vs ++ [u1, u2]) → w.grownBy w' (blockOf a) → (blockOf a' = blockOf a ∨ blockOf a' = some w.heap.size) → wpList P ops Q rest (act.put o.dst (.slice a' N c')) w') :
    wpList P ops Q (o :: rest) act w := by
  subst hN
  refine wpList_plain hgd fun K hK => ?_
  obtain ⟨a', c', w', hr, h2, h3, h4⟩ := run_append2 (P := P) (ty := o.type) hE hown c2 hsrc h1 h63 hb hB
  unfold Oper.wp execOp
  simp only [ho, resolve, invoke, builtin, Sem.run_bind, Sem.run_pure, Result.andThen_ok, List.map_toArray, List.map_cons, List.map_nil, hs, hx, hr]
  exact hK _ _ (h a' c' w' h2 h3 h4)
theorem step_append2 {ops : Array Oper} {o : Oper} {act : Act} {K : Act → World → Prop} {Q : Exit → Act → World → Prop} {E : Prop} (hgd : o.guard = none) (s x : Operand) (t : TypeId)
    (ho : o.op = .call { callee := .builtin .append, args := #[s, x], argTypes := #[t, t] })
    {bytes : Nat} (hE : Elem2 P t e bytes) (N c2 : Nat) {a2 : Option Addr} (u1 u2 : Value)
    (hs : act.eval s = .slice a n c) (hx : act.eval x = .slice a2 1 c2) (hN : N = n + 1)
    (hown : Own2 w B e a c n vs) (hsrc : Src2 w a2 u1 u2) (h1 : u1.oneCell' = true ∧ u2.oneCell' = true)
    (h63 : N ≤ maxLen) (hb : N * bytes ≤ 140737488355328) (hB : B ≤ w.heap.size)
    (h : ∀ a' c' w', Own2 w' B e a' c' N (vs ++ [u1, u2]) → w.grownBy w' (blockOf a) → (blockOf a' = blockOf a ∨ blockOf a' = some w.heap.size) → K (act.put o.dst (.slice a' N c')) w') :
    if Region.wanted o (yielded ops act.tmps) = true then Oper.wp P o act w K Q else E := by
  have hw : Region.wanted o (yielded ops act.tmps) = true := by simp [Region.wanted, hgd]
  rw [if_pos hw]
  subst hN
  obtain ⟨a', c', w', hr, h2, h3, h4⟩ := run_append2 (P := P) (ty := o.type) hE hown c2 hsrc h1 h63 hb hB
  unfold Oper.wp execOp
  simp only [ho, resolve, invoke, builtin, Sem.run_bind, Sem.run_pure, Result.andThen_ok, List.map_toArray, List.map_cons, List.map_nil, hs, hx, hr]
  exact h a' c' w' h2 h3 h4
end

/-- The carries with rates RS and debts OS lie at the address a. -/
def Cars (D : Nat → Prop) (w : World) (a : Option Addr) (n : Nat) (RS OS : Nat → List Int) : Prop :=
  n ≤ maxLen ∧ (n ≠ 0 → ∃ b off, a = some ⟨b, off, none⟩ ∧ D b ∧ ∀ k, k < n → ∃ a1 c1 a2 c2, w.cell? ⟨b, off + k * 2, none⟩ = some (.slice a1 (RS k).length c1) ∧ w.cell? ⟨b, off + k * 2 + 1, none⟩ = some (.slice a2 (OS k).length c2) ∧ Ints D w a1 (RS k) ∧ Ints D w a2 (OS k))
section
variable {D D' : Nat → Prop} {w w' : World} {a : Option Addr} {n : Nat} {RS OS RS' OS' : Nat → List Int}
theorem Cars.mod (h : Cars D w a n RS OS) {E : Nat → Prop} (m : Mod E w w') (hd : ∀ b, b < w.heap.size → D b → ¬ E b) : Cars D w' a n RS OS :=
  ⟨h.1, fun hx => by
    obtain ⟨b, off, ha, hD, hc⟩ := h.2 hx
    refine ⟨b, off, ha, hD, fun k hk => ?_⟩
    obtain ⟨a1, c1, a2, c2, h1, h2, h3, h4⟩ := hc k hk
    have hlt := World.block_lt_of_cell? w _ h1
    exact ⟨a1, c1, a2, c2, m.cell h1 (hd b hlt hD), m.cell h2 (hd b hlt hD), h3.mod m hd, h4.mod m hd⟩⟩
theorem Cars.frame (h : Cars D w a n RS OS) (m : Mod NoBlock w w') : Cars D w' a n RS OS := h.mod m fun _ _ _ => id
theorem Cars.mono (h : Cars D w a n RS OS) (hd : ∀ b, b < w.heap.size → D b → D' b) : Cars D' w a n RS OS :=
  ⟨h.1, fun hx => by
    obtain ⟨b, off, ha, hD, hc⟩ := h.2 hx
    obtain ⟨a1, c1, a2, c2, h1, h2, h3, h4⟩ := hc 0 (by omega)
    refine ⟨b, off, ha, hd b (World.block_lt_of_cell? w _ h1) hD, fun k hk => ?_⟩
    obtain ⟨a1, c1, a2, c2, h1, h2, h3, h4⟩ := hc k hk
    exact ⟨a1, c1, a2, c2, h1, h2, h3.mono hd, h4.mono hd⟩⟩
theorem Cars.congr (h : Cars D w a n RS OS) (h1 : ∀ k, k < n → RS k = RS' k) (h2 : ∀ k, k < n → OS k = OS' k) : Cars D w a n RS' OS' :=
  ⟨h.1, fun hx => by
    obtain ⟨b, off, ha, hD, hc⟩ := h.2 hx
    exact ⟨b, off, ha, hD, fun k hk => by rw [← h1 k hk, ← h2 k hk]; exact hc k hk⟩⟩

def Vals2 (D : Nat → Prop) (w : World) (vs : List Value) (n : Nat) (RS OS : Nat → List Int) : Prop :=
  vs.length = n * 2 ∧ ∀ k, k < n → ∃ a1 c1 a2 c2, vs[k * 2]? = some (.slice a1 (RS k).length c1) ∧ vs[k * 2 + 1]? = some (.slice a2 (OS k).length c2) ∧ Ints D w a1 (RS k) ∧ Ints D w a2 (OS k)
theorem Vals2.mod {vs : List Value} (h : Vals2 D w vs n RS OS) {E : Nat → Prop} (m : Mod E w w') (hd : ∀ b, b < w.heap.size → D b → ¬ E b) : Vals2 D w' vs n RS OS :=
  ⟨h.1, fun k hk => let ⟨a1, c1, a2, c2, h1, h2, h3, h4⟩ := h.2 k hk; ⟨a1, c1, a2, c2, h1, h2, h3.mod m hd, h4.mod m hd⟩⟩
theorem Vals2.mono {vs : List Value} (h : Vals2 D w vs n RS OS) (hd : ∀ b, b < w.heap.size → D b → D' b) : Vals2 D' w vs n RS OS :=
  ⟨h.1, fun k hk => let ⟨a1, c1, a2, c2, h1, h2, h3, h4⟩ := h.2 k hk; ⟨a1, c1, a2, c2, h1, h2, h3.mono hd, h4.mono hd⟩⟩
theorem Vals2.snoc {vs : List Value} (h : Vals2 D w vs n RS OS) {a1 a2 : Option Addr} {c1 c2 : Nat} (h1 : Ints D w a1 (RS n)) (h2 : Ints D w a2 (OS n)) : Vals2 D w (vs ++ [.slice a1 (RS n).length c1, .slice a2 (OS n).length c2]) (n + 1) RS OS := by
  refine ⟨by simp [h.1]; omega, fun k hk => ?_⟩
  by_cases hkn : k < n
  · obtain ⟨b1, d1, b2, d2, e1, e2, e3, e4⟩ := h.2 k hkn
    exact ⟨b1, d1, b2, d2, by rw [List.getElem?_append_left (by rw [h.1]; omega)]; exact e1, by rw [List.getElem?_append_left (by rw [h.1]; omega)]; exact e2, e3, e4⟩
  · obtain rfl : k = n := by omega
    refine ⟨a1, c1, a2, c2, ?_, ?_, h1, h2⟩
    · rw [List.getElem?_append_right (by rw [h.1]; omega), h.1, Nat.sub_self]; rfl
    · rw [List.getElem?_append_right (by rw [h.1]; omega), h.1, Nat.add_sub_cancel_left]; rfl

def OwnCars (w : World) (B e : Nat) (a : Option Addr) (c n : Nat) (RS OS : Nat → List Int) : Prop :=
  ∃ vs, Own2 w B e a c n vs ∧ Vals2 (fun b => B ≤ b ∧ some b ≠ blockOf a) w vs n RS OS
theorem OwnCars.nil (w : World) (B e : Nat) (RS OS : Nat → List Int) : OwnCars w B e none 0 0 RS OS := ⟨[], Own2.nil w B e, rfl, fun k hk => absurd hk (by omega)⟩
theorem OwnCars.snoc {w W w' : World} {B e c' : Nat} {a a' b1 b2 : Option Addr} {d1 d2 : Nat} {vs : List Value}
    (h2 : Vals2 (fun b => B ≤ b ∧ some b ≠ blockOf a) w vs n RS OS) (hx : Ints (fun b => B ≤ b ∧ some b ≠ blockOf a) w b1 (RS n)) (hy : Ints (fun b => B ≤ b ∧ some b ≠ blockOf a) w b2 (OS n)) (hW : Mod NoBlock w W)
    (ho : Own2 w' B e a' c' (n + 1) (vs ++ [.slice b1 (RS n).length d1, .slice b2 (OS n).length d2])) (hg : W.grownBy w' (blockOf a)) (ha : blockOf a' = blockOf a ∨ blockOf a' = some W.heap.size) : OwnCars w' B e a' c' (n + 1) RS OS := by
  refine ⟨_, ho, ?_⟩
  have hm : Mod (fun b => some b = blockOf a) w w' := hW.only.grown hg (fun k hk => .inl hk.symm)
  have h3 := (h2.mono (D' := fun b => (B ≤ b ∧ some b ≠ blockOf a) ∧ b < w.heap.size) fun b hb hd => ⟨hd, hb⟩).snoc (c1 := d1) (c2 := d2) hx.lt hy.lt
  refine (h3.mod hm fun b _ hb e => hb.1.2 e).mono fun b _ hb => ⟨hb.1.1, fun e => ?_⟩
  rcases ha with ha | ha
  · exact hb.1.2 (by rw [← ha]; exact e)
  · rw [ha] at e; injection e with e; have := hW.size; omega
theorem OwnCars.mod {B e c : Nat} {E : Nat → Prop} (h : OwnCars w B e a c n RS OS) (m : Mod E w w') (hd : ∀ b, b < w.heap.size → B ≤ b → ¬ E b) : OwnCars w' B e a c n RS OS := by
  obtain ⟨vs, h1, h2⟩ := h
  exact ⟨vs, h1.mod m (fun k hk => hd k (h1.lt hk).2 (h1.lt hk).1), h2.mod m fun b hb hh => hd b hb hh.1⟩
theorem OwnCars.cars {B e c : Nat} (h : OwnCars w B e a c n RS OS) (hl : n ≤ maxLen) : Cars (fun b => B ≤ b) w a n RS OS := by
  obtain ⟨vs, h1, h2⟩ := h
  refine ⟨hl, fun hn => ?_⟩
  have h1' := h1
  rcases h1.2 with ⟨_, h0⟩ | ⟨g, cap, cur, hv', hb, hg, _⟩
  · exact absurd h0 hn
  · have ha : a = some ⟨g, 0, Option.none⟩ := by injection hv'
    subst ha
    refine ⟨g, 0, rfl, hb, fun k hk => ?_⟩
    obtain ⟨a1, c1, a2, c2, e1, e2, e3, e4⟩ := h2.2 k hk
    have g1 := World.ownsRow.cells h1' (g := g) (by rw [ownBlock_slice]; rfl) _ _ e1
    have g2 := World.ownsRow.cells h1' (g := g) (by rw [ownBlock_slice]; rfl) _ _ e2
    have ap : ∀ j, (⟨g, 0, none⟩ : Addr).add j = ⟨g, 0 + j, none⟩ := fun j => by unfold Addr.add; split <;> simp_all
    rw [ap] at g1 g2
    exact ⟨a1, c1, a2, c2, g1, by rw [Nat.add_assoc]; exact g2, e3.mono fun _ _ h => h.1, e4.mono fun _ _ h => h.1⟩
end

end Go.Proofs.Ytnpdkpbecmpdbaa
