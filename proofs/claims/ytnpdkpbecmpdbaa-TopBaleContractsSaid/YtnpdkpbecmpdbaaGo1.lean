/-
  What came in, opened: a slice of classes (two numbers each).
-/
import Derived.Test.YtnpdkpbecmpdbaaOpen
import Derived.Test.YtnpdkpbecmpdbaaG1
import Derived.Deep.SlicePairs
set_option linter.unusedVariables false
set_option linter.unusedSimpArgs false
namespace Go.Proofs.Ytnpdkpbecmpdbaa
open Go.ChangeShapes Go.WideShapes Go.ChangeAt Go.RowKit Go.Deep

theorem choose_grs {n : Nat} {α : Type} [Inhabited α] {p : Nat → α → Prop} (h : ∀ k, k < n → ∃ x, p k x) : ∃ f : Nat → α, ∀ k, k < n → p k (f k) := by
  have : ∀ k, ∃ x, k < n → p k x := fun k => by
    by_cases hk : k < n
    · obtain ⟨x, hx⟩ := h k hk; exact ⟨x, fun _ => hx⟩
    · exact ⟨default, fun h => absurd h hk⟩
  exact Classical.axiomOfChoice this

section
variable {H : Type} {enc : TypeId × Value → H} {P : Program} {W : World} {base : Nat} {r : Reach}

theorem open_Grs {t e : TypeId} {f0 f1 : Field} {v : Value} {d : DataW H} {p : List MemPlace} (ht : P.underlying t = some (.slice e)) (he : P.underlying e = some (.struct #[f0, f1])) (h0 : P.underlying f0.type = some (.int .i64)) (h1 : P.underlying f1.type = some (.int .i64))
    (ce : P.cellsOf e = 2) (o0 : f0.offset = 0) (o1 : f1.offset = 1) (c0 : P.cellsOf f0.type = 1) (c1 : P.cellsOf f1.type = 1) (hv : Value.okWide P W r base t v) (h : DataW.Trod enc P W 0 (fun _ => true) true t v d p) (hfz : W.noneFrozen p) :
    ∃ a c l, v = .slice a l.length c ∧ Grs Any W a l ∧ l.length ≤ c := by
  obtain ⟨a0, len, cap, rfl⟩ := okWide_slice ht hv
  obtain ⟨fuel, hf⟩ := h
  rcases open_slice_pairs ht he ce o0 o1 c0 c1 hf with ⟨hcs, hx⟩ | ⟨a, l, c, m, n, V0, V1, D0, D1, P0, P1, hcs, _, hl, hm, hmm, hx, hi⟩
  · simp [Value.cells] at hcs
    obtain ⟨rfl, rfl, rfl⟩ := hcs
    exact ⟨Option.none, 0, [], rfl, ⟨by simp [maxLen], fun h => absurd rfl h⟩, Nat.le_refl _⟩
  · simp [Value.cells] at hcs
    obtain ⟨rfl, rfl, rfl⟩ := hcs
    simp only [if_true] at hmm
    subst hmm
    have each : ∀ k, k < len → ∃ y : Int × Int, V0 k = .int .i64 y.1 ∧ V1 k = .int .i64 y.2 := by
      intro k hk
      obtain ⟨_, _, t0, t1⟩ := hi k (by omega)
      obtain ⟨s, hs1, hs2⟩ := DataW.trod_int h0 t0
      obtain ⟨x, hx1, hx2⟩ := DataW.trod_int h1 t1
      exact ⟨(s, x), by simpa using hs1, by simpa using hx1⟩
    obtain ⟨y, hy⟩ := choose_grs each
    have hlen : ((List.range len).map y).length = len := by simp
    have hpx : ∀ k, k < len → gx ((List.range len).map y) k = y k := fun k hk => by simp [gx, hk]
    refine ⟨some a, m, (List.range len).map y, by rw [hlen], ⟨by rw [hlen]; omega, fun hne => ?_⟩, by rw [hlen]; exact hl⟩
    have h0' : 0 < len := by
      have := List.length_pos_iff.2 hne
      omega
    obtain ⟨b, off, spot⟩ := a
    have hspot : spot = none := by simpa [Addr.add] using World.cell?_spot (hi 0 (by omega)).1
    subst hspot
    refine ⟨b, off, rfl, trivial, fun k hk => ?_⟩
    rw [hlen] at hk
    rw [hpx k hk]
    obtain ⟨g0, g1, _, _⟩ := hi k (by omega)
    rw [add_plain, (hy k hk).1] at g0
    rw [add_plain, (hy k hk).2] at g1
    exact ⟨g0, by rw [Nat.add_assoc]; exact g1⟩
end

end Go.Proofs.Ytnpdkpbecmpdbaa
