/-
  What came in, opened: a camera (a struct of one slice of slices of numbers); a pair of numbers.
-/
import Derived.Test.YtddjkmaigifomaaOpm
import Derived.Lib.SmallJoins
set_option linter.unusedVariables false
set_option linter.unusedSimpArgs false
namespace Go.Proofs.Ytddjkmaigifomaa
open Go.ChangeShapes Go.WideShapes Go.ChangeAt Go.RowKit Go.Deep

section
variable {H : Type} {enc : TypeId × Value → H} {P : Program} {W : World} {base : Nat} {r : Reach}

theorem mixes_of_trod {t e q : TypeId} {cs : List Value} {x : DataW H × List MemPlace} {fuel : Nat} (ht : P.underlying t = some (.slice e)) (he : P.underlying e = some (.slice q)) (hq : P.underlying q = some (.int .i64)) (ce : P.cellsOf e = 1) (cq : P.cellsOf q = 1)
    (hf : DataW.trod enc P W 0 (fun _ => true) true fuel t cs = some x) (hfz : W.noneFrozen x.2) :
    ∃ a c xss, cs = [.slice a xss.length c] ∧ Mixes Any W a xss ∧ xss.length ≤ c ∧ ∀ k y, y ∈ rx xss k → I64 y := by
  rcases open_slice1 ht ce hf with ⟨hcs, hx⟩ | ⟨a, l, c, m, n, V, D, Pl, hcs, _, hl, hm, hmm, hx, hi⟩
  · subst hcs
    exact ⟨Option.none, 0, [], rfl, Mixes.nil _ _ _, Nat.le_refl _, fun k y hy => absurd hy (by simp [rx])⟩
  · subst hcs
    simp only [if_true] at hmm
    subst hmm
    have each : ∀ k, k < l → ∃ y : Option Addr × Nat × List Int, V k = .slice y.1 y.2.2.length y.2.1 ∧ Ints Any W y.1 y.2.2 ∧ ∀ z ∈ y.2.2, I64 z := by
      intro k hk
      obtain ⟨a', c', xs, h1, h2, _, h3⟩ := ints_of_trod he hq cq (hi k (by omega)).2 (fun b off hp => hfz b off (by
        rw [hx]
        exact List.mem_append_right _ (List.mem_flatMap.2 ⟨k, List.mem_range.2 (by omega), hp⟩)))
      exact ⟨(a', c', xs), by simpa using h1, h2, h3⟩
    obtain ⟨y, hy⟩ := choose_lt each
    have hlen : ((List.range l).map fun k => (y k).2.2).length = l := by simp
    have hrx : ∀ k, k < l → rx ((List.range l).map fun k => (y k).2.2) k = (y k).2.2 := fun k hk => by simp [rx, hk]
    refine ⟨some a, m, (List.range l).map fun k => (y k).2.2, by rw [hlen], ⟨by rw [hlen]; omega, fun h0 => ?_⟩, by rw [hlen]; exact hl, fun k z hz => ?_⟩
    · have h0' : 0 < l := by
        have := List.length_pos_iff.2 h0
        omega
      obtain ⟨b, off, spot⟩ := a
      have hspot : spot = none := by simpa [Addr.add] using World.cell?_spot (hi 0 (by omega)).1
      subst hspot
      refine ⟨b, off, rfl, trivial, fun k hk => ?_⟩
      rw [hlen] at hk
      rw [hrx k hk]
      have hc := (hi k (by omega)).1
      rw [add_plain, (hy k hk).1] at hc
      exact ⟨_, _, hc, (hy k hk).2.1⟩
    · by_cases hk : k < l
      · rw [hrx k hk] at hz; exact (hy k hk).2.2 z hz
      · have : rx ((List.range l).map fun k => (y k).2.2) k = [] := by simp [rx, List.getElem?_eq_none (show ((List.range l).map fun k => (y k).2.2).length ≤ k by simp; omega)]
        rw [this] at hz; cases hz

theorem array1 {α : Type} {cs : Array α} (h : cs.size = 1) : ∃ c0, cs = #[c0] := by
  obtain ⟨l⟩ := cs
  match l, h with
  | [c0], _ => exact ⟨c0, rfl⟩

theorem open_Cam {t e q : TypeId} {f0 : Field} {v : Value} {d : DataW H} {p : List MemPlace} (hs : P.underlying t = some (.struct #[f0])) (hC : P.cellsOf t = 1) (o0 : f0.offset = 0) (c0 : P.cellsOf f0.type = 1)
    (ht : P.underlying f0.type = some (.slice e)) (he : P.underlying e = some (.slice q)) (hq : P.underlying q = some (.int .i64)) (ce : P.cellsOf e = 1) (cq : P.cellsOf q = 1)
    (hv : Value.okWide P W r base t v) (h : DataW.Trod enc P W 0 (fun _ => true) true t v d p) (hfz : W.noneFrozen p) :
    ∃ a c xss, v = .agg #[.slice a xss.length c] ∧ Mixes Any W a xss ∧ xss.length ≤ c ∧ ∀ k y, y ∈ rx xss k → I64 y := by
  obtain ⟨cs, rfl, hsz⟩ := okWide_struct hs hv
  obtain ⟨u0, rfl⟩ := array1 (hsz.trans hC)
  obtain ⟨fuel, hf⟩ := h
  obtain ⟨xs, n, _, hx, hl, hlen, hf⟩ := DataW.trod_struct hs hf
  have : ∃ y0, xs = [y0] := by
    match xs, hlen with
    | [y0], _ => exact ⟨y0, rfl⟩
  obtain ⟨y0, rfl⟩ := this
  have h0 := hf 0 f0 rfl
  simp [Value.cells, o0, c0] at h0
  simp only [Prod.mk.injEq] at hx
  have hp : p = y0.2 := by simpa using hx.2
  rw [hp] at hfz
  obtain ⟨a, c, xss, h1, h2, h3, h4⟩ := mixes_of_trod ht he hq ce cq h0 hfz
  refine ⟨a, c, xss, ?_, h2, h3, h4⟩
  have : u0 = .slice a xss.length c := by simpa using h1
  rw [this]
end

end Go.Proofs.Ytddjkmaigifomaa
