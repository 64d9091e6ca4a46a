/-
  What came in, opened: a slice of slices of numbers, with the rooms of its rows.
-/
import Derived.Test.YtddjkmaigifomaaOpm
set_option linter.unusedVariables false
set_option linter.unusedSimpArgs false
namespace Go.Proofs.Ytddjkmaigifomaa
open Go.ChangeShapes Go.WideShapes Go.ChangeAt Go.RowKit Go.Deep

/-- No row is longer than its room. -/
def Caps (w : World) (a : Option Addr) (n : Nat) : Prop := ∀ b off, a = some ⟨b, off, Option.none⟩ → ∀ k, k < n → ∀ a' l c', w.cell? ⟨b, off + k, Option.none⟩ = some (.slice a' l c') → l ≤ c'

section
variable {H : Type} {enc : TypeId × Value → H} {P : Program} {W : World} {base : Nat} {r : Reach}

theorem open_MixesC {t e q : TypeId} {v : Value} {d : DataW H} {p : List MemPlace} (ht : P.underlying t = some (.slice e)) (he : P.underlying e = some (.slice q)) (hq : P.underlying q = some (.int .i64)) (ce : P.cellsOf e = 1) (cq : P.cellsOf q = 1)
    (hv : Value.okWide P W r base t v) (h : DataW.Trod enc P W 0 (fun _ => true) true t v d p) (hfz : W.noneFrozen p) :
    ∃ a c xss, v = .slice a xss.length c ∧ Mixes Any W a xss ∧ xss.length ≤ c ∧ (∀ k y, y ∈ rx xss k → I64 y) ∧ Caps W a xss.length := by
  obtain ⟨a, c, xss, h1, h2, h3, h4⟩ := open_Mixes ht he hq ce cq hv h hfz
  refine ⟨a, c, xss, h1, h2, h3, h4, ?_⟩
  subst h1
  obtain ⟨fuel, hf⟩ := h
  rcases open_slice1 ht ce hf with ⟨hcs, hx⟩ | ⟨a9, l, c9, m, n, V, D, Pl, hcs, _, hl, hm, hmm, hx, hi⟩
  · simp [Value.cells] at hcs
    intro b off hab k hk
    rw [hcs.1] at hab
    cases hab
  · simp [Value.cells] at hcs
    obtain ⟨rfl, e2, rfl⟩ := hcs
    simp only [if_true] at hmm
    subst hmm
    simp only [Prod.mk.injEq] at hx
    intro b off hab k hk a' l' c' hc
    have h9 := (hi k (by omega)).1
    have hab : a9 = ⟨b, off, Option.none⟩ := Option.some_inj.1 hab
    rw [hab, add_plain, hc] at h9
    obtain ⟨a', c'', xs, g1, _, g2, _⟩ := ints_of_trod he hq cq (hi k (by omega)).2 (fun b off hp => hfz b off (by
      rw [hx.2]
      exact List.mem_append_right _ (List.mem_flatMap.2 ⟨k, List.mem_range.2 (by omega), hp⟩)))
    simp at h9 g1
    rw [g1] at h9
    simp at h9
    omega
end

end Go.Proofs.Ytddjkmaigifomaa
