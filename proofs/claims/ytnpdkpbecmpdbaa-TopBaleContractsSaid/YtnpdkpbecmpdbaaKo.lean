/-
  contract: what came in, opened: contracts, bales, and slices of them.
-/
import Derived.Test.YtnpdkpbecmpdbaaOpen
import Derived.Test.YtnpdkpbecmpdbaaOpm
import Derived.Test.YtnpdkpbecmpdbaaKa
import Derived.Lib.SmallJoins
set_option linter.unusedVariables false
set_option linter.unusedSimpArgs false
namespace Go.Proofs.Ytnpdkpbecmpdbaa
open Go.ChangeShapes Go.WideShapes Go.ChangeAt Go.RowKit Go.Deep

theorem list7 {α : Type} {l : List α} (h : l.length = 7) : ∃ a b c d e f g, l = [a, b, c, d, e, f, g] := by
  match l, h with
  | [a, b, c, d, e, f, g], _ => exact ⟨a, b, c, d, e, f, g, rfl⟩
theorem list4 {α : Type} {l : List α} (h : l.length = 4) : ∃ a b c d, l = [a, b, c, d] := by
  match l, h with
  | [a, b, c, d], _ => exact ⟨a, b, c, d, rfl⟩
theorem choose_lk {n : Nat} {α : Type} [Inhabited α] {p : Nat → α → Prop} (h : ∀ k, k < n → ∃ x, p k x) : ∃ f : Nat → α, ∀ k, k < n → p k (f k) := by
  have : ∀ k, ∃ x, k < n → p k x := fun k => by
    by_cases hk : k < n
    · obtain ⟨x, hx⟩ := h k hk; exact ⟨x, fun _ => hx⟩
    · exact ⟨default, fun h => absurd h hk⟩
  exact Classical.axiomOfChoice this
instance : Inhabited Ctr := ⟨Ctr.zero⟩
instance : Inhabited Bal := ⟨Bal.zero⟩

section
variable {H : Type} {enc : TypeId × Value → H} {W : World} {base : Nat} {r : Reach}

set_option maxRecDepth 100000 in
theorem ctr_of_trod {cs : List Value} {x : DataW H × List MemPlace} {fuel : Nat} (h : DataW.trod enc Try.prog W 0 (fun _ => true) true fuel 58 cs = some x) :
    ∃ y : Ctr, cs = [.int .i64 y.i, .int .i64 y.m, .int .i64 y.g, .int .i64 y.w, .int .i64 y.s, .int .i64 y.p, .int .i64 y.q] ∧ (I64 y.i ∧ I64 y.m ∧ I64 y.g ∧ I64 y.w ∧ I64 y.s ∧ I64 y.p ∧ I64 y.q) := by
  obtain ⟨xs, n, _, hx, hl, hlen, hf⟩ := DataW.trod_struct Try.underlying58 h
  obtain ⟨v0, v1, v2, v3, v4, v5, v6, rfl⟩ := list7 (hl.trans (show Try.prog.cellsOf 58 = 7 by kernel_rfl))
  obtain ⟨y0, y1, y2, y3, y4, y5, y6, rfl⟩ := list7 (l := xs) hlen
  have c1 : Try.prog.cellsOf 3 = 1 := by kernel_rfl
  have h0 := hf 0 _ rfl
  have h1 := hf 1 _ rfl
  have h2 := hf 2 _ rfl
  have h3 := hf 3 _ rfl
  have h4 := hf 4 _ rfl
  have h5 := hf 5 _ rfl
  have h6 := hf 6 _ rfl
  simp [c1] at h0 h1 h2 h3 h4 h5 h6
  obtain ⟨x0, e0, _, w0⟩ := DataW.trod_int Try.underlying3 h0
  obtain ⟨x1, e1, _, w1⟩ := DataW.trod_int Try.underlying3 h1
  obtain ⟨x2, e2, _, w2⟩ := DataW.trod_int Try.underlying3 h2
  obtain ⟨x3, e3, _, w3⟩ := DataW.trod_int Try.underlying3 h3
  obtain ⟨x4, e4, _, w4⟩ := DataW.trod_int Try.underlying3 h4
  obtain ⟨x5, e5, _, w5⟩ := DataW.trod_int Try.underlying3 h5
  obtain ⟨x6, e6, _, w6⟩ := DataW.trod_int Try.underlying3 h6
  refine ⟨⟨x0, x1, x2, x3, x4, x5, x6⟩, ?_, i64_of_wf w0, i64_of_wf w1, i64_of_wf w2, i64_of_wf w3, i64_of_wf w4, i64_of_wf w5, i64_of_wf w6⟩
  simp at e0 e1 e2 e3 e4 e5 e6
  rw [e0, e1, e2, e3, e4, e5, e6]
set_option maxRecDepth 100000 in
theorem bal_of_trod {cs : List Value} {x : DataW H × List MemPlace} {fuel : Nat} (h : DataW.trod enc Try.prog W 0 (fun _ => true) true fuel 60 cs = some x) (hfz : W.noneFrozen x.2) :
    ∃ (y : Bal) (a' : Option Addr) (c' : Nat), cs = [.int .i64 y.id, .int .i64 y.mat, .int .i64 y.tm, .slice a' y.mix.length c'] ∧ Ints Any W a' y.mix := by
  obtain ⟨y0, y1, y2, y3, n, hx, hl, h0, h1, h2, h3⟩ := Go.Joins.trod_struct4 Try.underlying60 h
  obtain ⟨v0, v1, v2, v3, rfl⟩ := list4 (hl.trans (show Try.prog.cellsOf 60 = 4 by kernel_rfl))
  have c1 : Try.prog.cellsOf 3 = 1 := by kernel_rfl
  have c2 : Try.prog.cellsOf 36 = 1 := by kernel_rfl
  simp [c1] at h0 h1 h2
  simp [c2] at h3
  obtain ⟨x0, e0, _, _⟩ := DataW.trod_int Try.underlying3 h0
  obtain ⟨x1, e1, _, _⟩ := DataW.trod_int Try.underlying3 h1
  obtain ⟨x2, e2, _, _⟩ := DataW.trod_int Try.underlying3 h2
  obtain ⟨a', c', xs, e3, hi, _, _⟩ := ints_of_trod Try.underlying36 Try.underlying3 c1 h3 (fun b off hm => hfz b off (by rw [hx]; simp [hm]))
  refine ⟨⟨x0, x1, x2, xs⟩, a', c', ?_, hi⟩
  simp only [List.cons.injEq, and_true] at e0 e1 e2 e3
  rw [e0, e1, e2, e3]

set_option maxRecDepth 100000 in
theorem open_Ctr {v : Value} {d : DataW H} {p : List MemPlace} (hv : Value.okWide Try.prog W r base 58 v) (h : DataW.Trod enc Try.prog W 0 (fun _ => true) true 58 v d p) (hfz : W.noneFrozen p) :
    ∃ y : Ctr, v = .agg #[.int .i64 y.i, .int .i64 y.m, .int .i64 y.g, .int .i64 y.w, .int .i64 y.s, .int .i64 y.p, .int .i64 y.q] ∧ (I64 y.i ∧ I64 y.m ∧ I64 y.g ∧ I64 y.w ∧ I64 y.s ∧ I64 y.p ∧ I64 y.q) := by
  obtain ⟨cs, rfl, hsz⟩ := okWide_struct Try.underlying58 hv
  obtain ⟨fuel, hf⟩ := h
  obtain ⟨y, hy, hb⟩ := ctr_of_trod hf
  refine ⟨y, ?_, hb⟩
  simp only [Value.cells] at hy
  obtain ⟨l⟩ := cs
  simp only at hy
  rw [hy]
set_option maxRecDepth 100000 in
theorem open_Bal {v : Value} {d : DataW H} {p : List MemPlace} (hv : Value.okWide Try.prog W r base 60 v) (h : DataW.Trod enc Try.prog W 0 (fun _ => true) true 60 v d p) (hfz : W.noneFrozen p) :
    ∃ (y : Bal) (a' : Option Addr) (c' : Nat), v = .agg #[.int .i64 y.id, .int .i64 y.mat, .int .i64 y.tm, .slice a' y.mix.length c'] ∧ Ints Any W a' y.mix := by
  obtain ⟨cs, rfl, hsz⟩ := okWide_struct Try.underlying60 hv
  obtain ⟨fuel, hf⟩ := h
  obtain ⟨y, a', c', hy, hb⟩ := bal_of_trod hf hfz
  refine ⟨y, a', c', ?_, hb⟩
  simp only [Value.cells] at hy
  obtain ⟨l⟩ := cs
  simp only at hy
  rw [hy]

set_option maxRecDepth 100000 in
theorem open_Ctrs {v : Value} {d : DataW H} {p : List MemPlace} (hv : Value.okWide Try.prog W r base 47 v) (h : DataW.Trod enc Try.prog W 0 (fun _ => true) true 47 v d p) (hfz : W.noneFrozen p) :
    ∃ a c l, v = .slice a l.length c ∧ Ctrs Any W a l ∧ l.length ≤ c := by
  obtain ⟨a0, len, cap, rfl⟩ := okWide_slice Try.underlying47 hv
  obtain ⟨fuel, hf⟩ := h
  rcases open_slice Try.underlying47 hf with ⟨hcs, hx⟩ | ⟨a, l, c, m, n, D, Pl, hcs, _, hl, hm, hmm, hx, hi⟩
  · simp [Value.cells] at hcs
    obtain ⟨rfl, rfl, rfl⟩ := hcs
    exact ⟨Option.none, 0, [], rfl, Ctrs.nil _ _ _, Nat.le_refl _⟩
  · simp [Value.cells] at hcs
    obtain ⟨rfl, rfl, rfl⟩ := hcs
    simp only [if_true] at hmm
    subst hmm
    have ce : Try.prog.cellsOf 58 = 7 := by kernel_rfl
    rw [ce] at hi
    have each : ∀ k, k < len → ∃ y : Ctr, ∀ j u, ([.int .i64 y.i, .int .i64 y.m, .int .i64 y.g, .int .i64 y.w, .int .i64 y.s, .int .i64 y.p, .int .i64 y.q] : List Value)[j]? = some u → W.cell? ((a.add (k * 7)).add j) = some u := by
      intro k hk
      obtain ⟨cs', h1, h2⟩ := hi k (by omega)
      obtain ⟨y, rfl, _⟩ := ctr_of_trod h2
      exact ⟨y, fun j u hu => ((World.cells?_some h1).2.2 j (by obtain ⟨hj, _⟩ := List.getElem?_eq_some_iff.1 hu; simpa using hj)).trans hu⟩
    obtain ⟨y, hy⟩ := choose_lk each
    have hlen : ((List.range len).map y).length = len := by simp
    refine ⟨some a, m, (List.range len).map y, by rw [hlen], ⟨by rw [hlen]; omega, fun hne => ?_⟩, by rw [hlen]; exact hl⟩
    have h0' : 0 < len := by
      have := List.length_pos_iff.2 hne
      omega
    obtain ⟨b, off, spot⟩ := a
    have hspot : spot = none := by simpa [Addr.add] using World.cell?_spot (hy 0 h0' 0 _ rfl)
    subst hspot
    refine ⟨b, off, rfl, trivial, fun k hk => ?_⟩
    rw [hlen] at hk
    rw [show cx ((List.range len).map y) k = y k by simp [cx, hk]]
    have hc := hy k hk
    have g : ∀ j u, ([.int .i64 (y k).i, .int .i64 (y k).m, .int .i64 (y k).g, .int .i64 (y k).w, .int .i64 (y k).s, .int .i64 (y k).p, .int .i64 (y k).q] : List Value)[j]? = some u → W.cell? ⟨b, off + k * 7 + j, none⟩ = some u := fun j u hu => by
      have := hc j u hu
      rwa [add_plain, add_plain] at this
    exact ⟨g 0 _ rfl, g 1 _ rfl, g 2 _ rfl, g 3 _ rfl, g 4 _ rfl, g 5 _ rfl, g 6 _ rfl⟩

set_option maxRecDepth 100000 in
theorem open_Bals {v : Value} {d : DataW H} {p : List MemPlace} (hv : Value.okWide Try.prog W r base 50 v) (h : DataW.Trod enc Try.prog W 0 (fun _ => true) true 50 v d p) (hfz : W.noneFrozen p) :
    ∃ a c l, v = .slice a l.length c ∧ Bals Any W a l ∧ l.length ≤ c := by
  obtain ⟨a0, len, cap, rfl⟩ := okWide_slice Try.underlying50 hv
  obtain ⟨fuel, hf⟩ := h
  rcases open_slice Try.underlying50 hf with ⟨hcs, hx⟩ | ⟨a, l, c, m, n, D, Pl, hcs, _, hl, hm, hmm, hx, hi⟩
  · simp [Value.cells] at hcs
    obtain ⟨rfl, rfl, rfl⟩ := hcs
    exact ⟨Option.none, 0, [], rfl, Bals.nil _ _ _, Nat.le_refl _⟩
  · simp [Value.cells] at hcs
    obtain ⟨rfl, rfl, rfl⟩ := hcs
    simp only [if_true] at hmm
    subst hmm
    simp only [Prod.mk.injEq] at hx
    have ce : Try.prog.cellsOf 60 = 4 := by kernel_rfl
    rw [ce] at hi
    have each : ∀ k, k < len → ∃ y : Bal, ∃ (a' : Option Addr) (c' : Nat), (∀ j u, ([.int .i64 y.id, .int .i64 y.mat, .int .i64 y.tm, .slice a' y.mix.length c'] : List Value)[j]? = some u → W.cell? ((a.add (k * 4)).add j) = some u) ∧ Ints Any W a' y.mix := by
      intro k hk
      obtain ⟨cs', h1, h2⟩ := hi k (by omega)
      obtain ⟨y, a', c', rfl, hb⟩ := bal_of_trod h2 (fun b off hp => hfz b off (by
        rw [hx.2]
        exact List.mem_append_right _ (List.mem_flatMap.2 ⟨k, List.mem_range.2 (by omega), hp⟩)))
      exact ⟨y, a', c', fun j u hu => ((World.cells?_some h1).2.2 j (by obtain ⟨hj, _⟩ := List.getElem?_eq_some_iff.1 hu; simpa using hj)).trans hu, hb⟩
    obtain ⟨y, hy⟩ := choose_lk each
    have hlen : ((List.range len).map y).length = len := by simp
    refine ⟨some a, m, (List.range len).map y, by rw [hlen], ⟨by rw [hlen]; omega, fun hne => ?_⟩, by rw [hlen]; exact hl⟩
    have h0' : 0 < len := by
      have := List.length_pos_iff.2 hne
      omega
    obtain ⟨b, off, spot⟩ := a
    obtain ⟨a9, c9, h9, _⟩ := hy 0 h0'
    have hspot : spot = none := by simpa [Addr.add] using World.cell?_spot (h9 0 _ rfl)
    subst hspot
    refine ⟨b, off, rfl, trivial, fun k hk => ?_⟩
    rw [hlen] at hk
    rw [show bx ((List.range len).map y) k = y k by simp [bx, hk]]
    obtain ⟨a', c', hc, hb⟩ := hy k hk
    have g : ∀ j u, ([.int .i64 (y k).id, .int .i64 (y k).mat, .int .i64 (y k).tm, .slice a' (y k).mix.length c'] : List Value)[j]? = some u → W.cell? ⟨b, off + k * 4 + j, none⟩ = some u := fun j u hu => by
      have := hc j u hu
      rwa [add_plain, add_plain] at this
    exact ⟨a', c', g 0 _ rfl, g 1 _ rfl, g 2 _ rfl, g 3 _ rfl, hb⟩
end

end Go.Proofs.Ytnpdkpbecmpdbaa
