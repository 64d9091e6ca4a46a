/-
  What came in, opened: a slice of pairs of mixes ([2] of a slice of numbers); a slice of pairs of a bool and a mix.
-/
import Derived.Test.YtinoekldcchfhaaOpm
import Derived.Deep.SlicePairs
set_option linter.unusedVariables false
set_option linter.unusedSimpArgs false
namespace Go.Proofs.Ytinoekldcchfhaa
open Go.ChangeShapes Go.WideShapes Go.ChangeAt Go.RowKit Go.Deep

def px (l : List (List Int × List Int)) (k : Nat) : List Int × List Int := l.getD k ([], [])
def ox (l : List (Bool × List Int)) (k : Nat) : Bool × List Int := l.getD k (false, [])

/-- Pairs of mixes at an address. -/
def Mix2s (w : World) (a : Option Addr) (l : List (List Int × List Int)) : Prop :=
  l ≠ [] → ∃ b off, a = some ⟨b, off, Option.none⟩ ∧ ∀ k, k < l.length → ∃ a1 c1 a2 c2, w.cell? ⟨b, off + k * 2, Option.none⟩ = some (.slice a1 (px l k).1.length c1) ∧ w.cell? ⟨b, off + k * 2 + 1, Option.none⟩ = some (.slice a2 (px l k).2.length c2) ∧
    Ints Any w a1 (px l k).1 ∧ Ints Any w a2 (px l k).2
/-- Pairs of a bool and a mix at an address. -/
def OpsAt (w : World) (a : Option Addr) (l : List (Bool × List Int)) : Prop :=
  l ≠ [] → ∃ b off, a = some ⟨b, off, Option.none⟩ ∧ ∀ k, k < l.length → ∃ a2 c2, w.cell? ⟨b, off + k * 2, Option.none⟩ = some (.bool (ox l k).1) ∧ w.cell? ⟨b, off + k * 2 + 1, Option.none⟩ = some (.slice a2 (ox l k).2.length c2) ∧
    Ints Any w a2 (ox l k).2

section
variable {H : Type} {enc : TypeId × Value → H} {P : Program} {W : World} {base : Nat} {r : Reach}

theorem open_arr2 {t e q : TypeId} {fuel : Nat} {cs : List Value} {x : DataW H × List MemPlace} (ht : P.underlying t = some (.slice e)) (he : P.underlying e = some (.array 2 q)) (ce : P.cellsOf e = 2) (cq : P.cellsOf q = 1)
    (h : DataW.trod enc P W 0 (fun _ => true) true fuel t cs = some x) :
    (cs = [.slice none 0 0] ∧ x = (.nil, [])) ∨
    ∃ (a : Addr) (len cap n : Nat) (V0 V1 : Nat → Value) (Y0 Y1 : Nat → DataW H × List MemPlace), cs = [.slice (some a) len cap] ∧ len ≤ cap ∧ cap ≤ maxLen ∧
      x.2 = MemPlace.row a (cap * 2) ++ (List.range cap).flatMap (fun i => (Y0 i).2 ++ (Y1 i).2) ∧
      ∀ i, i < cap → W.cell? (a.add (i * 2)) = some (V0 i) ∧ W.cell? (a.add (i * 2 + 1)) = some (V1 i) ∧
        DataW.trod enc P W 0 (fun _ => true) true n q [V0 i] = some (Y0 i) ∧ DataW.trod enc P W 0 (fun _ => true) true n q [V1 i] = some (Y1 i) := by
  rcases open_slice ht h with h0 | ⟨a, len, cap, m, n, D, Pl, rfl, hb, hl, hm, hmm, rfl, hx⟩
  · exact Or.inl h0
  right
  simp only [if_true] at hmm
  subst hmm
  rw [ce] at hx
  have each : ∀ i, i < m → ∃ z : Value × Value × (DataW H × List MemPlace) × (DataW H × List MemPlace), W.cell? (a.add (i * 2)) = some z.1 ∧ W.cell? (a.add (i * 2 + 1)) = some z.2.1 ∧ Pl i = z.2.2.1.2 ++ z.2.2.2.2 ∧
      DataW.trod enc P W 0 (fun _ => true) true (n - 1) q [z.1] = some z.2.2.1 ∧ DataW.trod enc P W 0 (fun _ => true) true (n - 1) q [z.2.1] = some z.2.2.2 := by
    intro i hi
    obtain ⟨cs', hc, ht'⟩ := hx i hi
    obtain ⟨ys, n', hn', hy, hlen, hyl, hf⟩ := DataW.trod_array he ht'
    obtain ⟨_, hcl, hat⟩ := World.cells?_some hc
    rw [cq] at hf
    match cs', hcl with
    | [c0, c1], _ =>
      match ys, hyl with
      | [y0, y1], _ =>
        have f0 := hf 0 (by omega)
        have f1 := hf 1 (by omega)
        have a0 := hat 0 (by omega)
        have a1 := hat 1 (by omega)
        rw [add_add] at a0 a1
        simp only [Prod.mk.injEq] at hy
        refine ⟨(c0, c1, y0, y1), by simpa using a0, by simpa using a1, by simpa using hy.2, ?_, ?_⟩
        · rw [show n - 1 = n' by omega]; simpa using f0
        · rw [show n - 1 = n' by omega]; simpa using f1
  obtain ⟨z, hz⟩ := choose_lt each
  refine ⟨a, len, m, n - 1, fun i => (z i).1, fun i => (z i).2.1, fun i => (z i).2.2.1, fun i => (z i).2.2.2, rfl, hl, hm, ?_, fun i hi => ⟨(hz i hi).1, (hz i hi).2.1, (hz i hi).2.2.2.1, (hz i hi).2.2.2.2⟩⟩
  rw [ce, flatMap_congr_range fun i hi => (hz i hi).2.2.1]

theorem open_Mix2s {t e q u : TypeId} {v : Value} {d : DataW H} {p : List MemPlace} (ht : P.underlying t = some (.slice e)) (he : P.underlying e = some (.array 2 q)) (hq : P.underlying q = some (.slice u)) (hu : P.underlying u = some (.int .i64))
    (ce : P.cellsOf e = 2) (cq : P.cellsOf q = 1) (cu : P.cellsOf u = 1) (hv : Value.okWide P W r base t v) (h : DataW.Trod enc P W 0 (fun _ => true) true t v d p) (hfz : W.noneFrozen p) :
    ∃ a c l, v = .slice a l.length c ∧ Mix2s W a l := by
  obtain ⟨a0, len, cap, rfl⟩ := okWide_slice ht hv
  obtain ⟨fuel, hf⟩ := h
  rcases open_arr2 ht he ce cq hf with ⟨hcs, hx⟩ | ⟨a, l, c, n, V0, V1, Y0, Y1, hcs, hl, hm, hx, hi⟩
  · simp [Value.cells] at hcs
    obtain ⟨rfl, rfl, rfl⟩ := hcs
    exact ⟨Option.none, 0, [], rfl, fun h => absurd rfl h⟩
  · simp [Value.cells] at hcs
    obtain ⟨rfl, rfl, rfl⟩ := hcs
    have each : ∀ k, k < len → ∃ y : (Option Addr × Nat × List Int) × (Option Addr × Nat × List Int), V0 k = .slice y.1.1 y.1.2.2.length y.1.2.1 ∧ V1 k = .slice y.2.1 y.2.2.2.length y.2.2.1 ∧ Ints Any W y.1.1 y.1.2.2 ∧ Ints Any W y.2.1 y.2.2.2 := by
      intro k hk
      have hmem : ∀ z, z ∈ (Y0 k).2 ++ (Y1 k).2 → z ∈ p := fun z hz => by
        rw [show p = _ from hx]; exact List.mem_append_right _ (List.mem_flatMap.2 ⟨k, List.mem_range.2 (by omega), hz⟩)
      obtain ⟨a1, c1, xs, h1, h2, _, _⟩ := ints_of_trod hq hu cu (hi k (by omega)).2.2.1 (fun b off hp => hfz b off (hmem _ (List.mem_append_left _ hp)))
      obtain ⟨a2, c2, ys, h3, h4, _, _⟩ := ints_of_trod hq hu cu (hi k (by omega)).2.2.2 (fun b off hp => hfz b off (hmem _ (List.mem_append_right _ hp)))
      exact ⟨((a1, c1, xs), (a2, c2, ys)), by simpa using h1, by simpa using h3, h2, h4⟩
    obtain ⟨y, hy⟩ := choose_lt each
    have hlen : ((List.range len).map fun k => ((y k).1.2.2, (y k).2.2.2)).length = len := by simp
    have hpx : ∀ k, k < len → px ((List.range len).map fun k => ((y k).1.2.2, (y k).2.2.2)) k = ((y k).1.2.2, (y k).2.2.2) := fun k hk => by simp [px, hk]
    refine ⟨some a, cap, (List.range len).map fun k => ((y k).1.2.2, (y k).2.2.2), by rw [hlen], fun h0 => ?_⟩
    have h0' : 0 < len := by
      have := List.length_pos_iff.2 h0
      omega
    obtain ⟨b, off, spot⟩ := a
    have hspot : spot = none := by simpa [Addr.add] using World.cell?_spot (hi 0 (by omega)).1
    subst hspot
    refine ⟨b, off, rfl, fun k hk => ?_⟩
    rw [hlen] at hk
    rw [hpx k hk]
    obtain ⟨g0, g1, _, _⟩ := hi k (by omega)
    rw [add_plain, (hy k hk).1] at g0
    rw [add_plain, (hy k hk).2.1] at g1
    exact ⟨_, _, _, _, g0, by rw [Nat.add_assoc]; exact g1, (hy k hk).2.2.1, (hy k hk).2.2.2⟩

theorem open_Ops {t e u : TypeId} {f0 f1 : Field} {v : Value} {d : DataW H} {p : List MemPlace} (ht : P.underlying t = some (.slice e)) (he : P.underlying e = some (.struct #[f0, f1])) (h0 : P.underlying f0.type = some .bool) (hq : P.underlying f1.type = some (.slice u)) (hu : P.underlying u = some (.int .i64))
    (ce : P.cellsOf e = 2) (o0 : f0.offset = 0) (o1 : f1.offset = 1) (c0 : P.cellsOf f0.type = 1) (c1 : P.cellsOf f1.type = 1) (cu : P.cellsOf u = 1) (hv : Value.okWide P W r base t v) (h : DataW.Trod enc P W 0 (fun _ => true) true t v d p) (hfz : W.noneFrozen p) :
    ∃ a c l, v = .slice a l.length c ∧ OpsAt W a l := by
  obtain ⟨a0, len, cap, rfl⟩ := okWide_slice ht hv
  obtain ⟨fuel, hf⟩ := h
  rcases open_slice_pairs ht he ce o0 o1 c0 c1 hf with ⟨hcs, hx⟩ | ⟨a, l, c, m, n, V0, V1, D0, D1, P0, P1, hcs, _, hl, hm, hmm, hx, hi⟩
  · simp [Value.cells] at hcs
    obtain ⟨rfl, rfl, rfl⟩ := hcs
    exact ⟨Option.none, 0, [], rfl, fun h => absurd rfl h⟩
  · simp [Value.cells] at hcs
    obtain ⟨rfl, rfl, rfl⟩ := hcs
    simp only [if_true] at hmm
    subst hmm
    simp only [Prod.mk.injEq] at hx
    have each : ∀ k, k < len → ∃ y : Bool × (Option Addr × Nat × List Int), V0 k = .bool y.1 ∧ V1 k = .slice y.2.1 y.2.2.2.length y.2.2.1 ∧ Ints Any W y.2.1 y.2.2.2 := by
      intro k hk
      obtain ⟨_, _, t0, t1⟩ := hi k (by omega)
      obtain ⟨bb, hb1, hb2⟩ := DataW.trod_bool h0 t0
      obtain ⟨a2, c2, ys, h3, h4, _, _⟩ := ints_of_trod hq hu cu t1 (fun b off hp => hfz b off (by
        rw [hx.2]
        exact List.mem_append_right _ (List.mem_flatMap.2 ⟨k, List.mem_range.2 (by omega), List.mem_append_right _ hp⟩)))
      exact ⟨(bb, a2, c2, ys), by simpa using hb1, by simpa using h3, h4⟩
    obtain ⟨y, hy⟩ := choose_lt each
    have hlen : ((List.range len).map fun k => ((y k).1, (y k).2.2.2)).length = len := by simp
    have hpx : ∀ k, k < len → ox ((List.range len).map fun k => ((y k).1, (y k).2.2.2)) k = ((y k).1, (y k).2.2.2) := fun k hk => by simp [ox, hk]
    refine ⟨some a, m, (List.range len).map fun k => ((y k).1, (y k).2.2.2), by rw [hlen], fun hne => ?_⟩
    have h0' : 0 < len := by
      have := List.length_pos_iff.2 hne
      omega
    obtain ⟨b, off, spot⟩ := a
    have hspot : spot = none := by simpa [Addr.add] using World.cell?_spot (hi 0 (by omega)).1
    subst hspot
    refine ⟨b, off, rfl, fun k hk => ?_⟩
    rw [hlen] at hk
    rw [hpx k hk]
    obtain ⟨g0, g1, _, _⟩ := hi k (by omega)
    rw [add_plain, (hy k hk).1] at g0
    rw [add_plain, (hy k hk).2.1] at g1
    exact ⟨_, _, g0, by rw [Nat.add_assoc]; exact g1, (hy k hk).2.2⟩
end

end Go.Proofs.Ytinoekldcchfhaa
