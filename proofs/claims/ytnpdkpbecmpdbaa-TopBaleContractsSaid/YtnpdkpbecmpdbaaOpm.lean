/-
  What came in, opened: a slice of slices of numbers.
-/
import Derived.Test.YtnpdkpbecmpdbaaOpen
set_option linter.unusedVariables false
set_option linter.unusedSimpArgs false
namespace Go.Proofs.Ytnpdkpbecmpdbaa
open Go.ChangeShapes Go.WideShapes Go.ChangeAt Go.RowKit Go.Deep

section
variable {H : Type} {enc : TypeId × Value → H} {P : Program} {W : World} {base : Nat} {r : Reach}

theorem ints_of_trod {t e : TypeId} {cs : List Value} {x : DataW H × List MemPlace} {fuel : Nat} (ht : P.underlying t = some (.slice e)) (he : P.underlying e = some (.int .i64)) (ce : P.cellsOf e = 1)
    (h : DataW.trod enc P W 0 (fun _ => true) true fuel t cs = some x) (hfz : W.noneFrozen x.2) :
    ∃ a c xs, cs = [.slice a xs.length c] ∧ Ints Any W a xs ∧ xs.length ≤ c ∧ ∀ y ∈ xs, I64 y := by
  rcases open_ints ht he ce h with ⟨hcs, hx⟩ | ⟨a, l, c, zs, hcs, _, hl, hm, hz, hx, hcell, hwz⟩
  · subst hcs
    exact ⟨Option.none, 0, [], rfl, Ints.nil _ _ _, Nat.le_refl _, fun x hx => absurd hx (by simp)⟩
  · subst hcs
    simp only [if_true] at hz
    subst hx
    have hlen : (zs.take l).length = l := by rw [List.length_take]; omega
    refine ⟨some a, c, zs.take l, by rw [hlen], ?_, by omega, fun x hx => i64_of_wf (hwz x (List.mem_of_mem_take hx))⟩
    by_cases h0 : zs.length = 0
    · have : zs.take l = [] := List.eq_nil_of_length_eq_zero (by omega)
      rw [this]; exact Ints.nil _ _ _
    · obtain ⟨b, off, rfl, hc⟩ := ints_at hcell (by omega)
      refine ints_of_row (by omega) (by omega) hc fun i hi => ?_
      exact hfz b (off + i) (MemPlace.mem_row.2 ⟨i, hi, rfl⟩)

theorem open_Mixes {t e q : TypeId} {v : Value} {d : DataW H} {p : List MemPlace} (ht : P.underlying t = some (.slice e)) (he : P.underlying e = some (.slice q)) (hq : P.underlying q = some (.int .i64)) (ce : P.cellsOf e = 1) (cq : P.cellsOf q = 1)
    (hv : Value.okWide P W r base t v) (h : DataW.Trod enc P W 0 (fun _ => true) true t v d p) (hfz : W.noneFrozen p) :
    ∃ a c xss, v = .slice a xss.length c ∧ Mixes Any W a xss ∧ xss.length ≤ c ∧ ∀ k y, y ∈ rx xss k → I64 y := by
  obtain ⟨a0, len, cap, rfl⟩ := okWide_slice ht hv
  obtain ⟨fuel, hf⟩ := h
  rcases open_slice1 ht ce hf with ⟨hcs, hx⟩ | ⟨a, l, c, m, n, V, D, Pl, hcs, _, hl, hm, hmm, hx, hi⟩
  · simp [Value.cells] at hcs
    obtain ⟨rfl, rfl, rfl⟩ := hcs
    exact ⟨Option.none, 0, [], rfl, Mixes.nil _ _ _, Nat.le_refl _, fun k y hy => absurd hy (by simp [rx])⟩
  · simp [Value.cells] at hcs
    obtain ⟨rfl, rfl, rfl⟩ := hcs
    simp only [if_true] at hmm
    subst hmm
    simp only [Prod.mk.injEq] at hx
    have each : ∀ k, k < len → ∃ y : Option Addr × Nat × List Int, V k = .slice y.1 y.2.2.length y.2.1 ∧ Ints Any W y.1 y.2.2 ∧ ∀ z ∈ y.2.2, I64 z := by
      intro k hk
      obtain ⟨a', c', xs, h1, h2, _, h3⟩ := ints_of_trod he hq cq (hi k (by omega)).2 (fun b off hp => hfz b off (by
        rw [hx.2]
        exact List.mem_append_right _ (List.mem_flatMap.2 ⟨k, List.mem_range.2 (by omega), hp⟩)))
      exact ⟨(a', c', xs), by simpa using h1, h2, h3⟩
    obtain ⟨y, hy⟩ := choose_lt each
    have hlen : ((List.range len).map fun k => (y k).2.2).length = len := by simp
    have hrx : ∀ k, k < len → rx ((List.range len).map fun k => (y k).2.2) k = (y k).2.2 := fun k hk => by simp [rx, hk]
    refine ⟨some a, m, (List.range len).map fun k => (y k).2.2, by rw [hlen], ⟨by rw [hlen]; omega, fun h0 => ?_⟩, by rw [hlen]; exact hl, fun k z hz => ?_⟩
    · have h0' : 0 < len := by
        have := List.length_pos_iff.2 h0
        omega
      obtain ⟨b, off, spot⟩ := a
      have hspot : spot = none := by simpa [Addr.add] using World.cell?_spot (hi 0 (by omega)).1
      subst hspot
      refine ⟨b, off, rfl, trivial, fun k hk => ?_⟩
      rw [hlen] at hk
      rw [hrx k hk]
      have hc := (hi k (by omega)).1
      rw [add_plain, (hy k hk).1] at hc
      exact ⟨_, _, hc, (hy k hk).2.1⟩
    · by_cases hk : k < len
      · rw [hrx k hk] at hz; exact (hy k hk).2.2 z hz
      · have : rx ((List.range len).map fun k => (y k).2.2) k = [] := by simp [rx, List.getElem?_eq_none (show ((List.range len).map fun k => (y k).2.2).length ≤ k by simp; omega)]
        rw [this] at hz; cases hz
end

end Go.Proofs.Ytnpdkpbecmpdbaa
