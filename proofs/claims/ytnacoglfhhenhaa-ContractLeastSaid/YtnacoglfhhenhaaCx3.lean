/-
  What came in, opened: numbers of any kind; a slice of such numbers.
-/
import Derived.Test.YtnacoglfhhenhaaOpen
set_option linter.unusedVariables false
set_option linter.unusedSimpArgs false
namespace Go.Proofs.Ytnacoglfhhenhaa
open Go.ChangeShapes Go.WideShapes Go.ChangeAt Go.RowKit Go.Deep

/-- Numbers of kind k lie at the address a. -/
def KInts (q : IntKind) (w : World) (a : Option Addr) (xs : List Int) : Prop :=
  xs.length ≤ maxLen ∧ (xs ≠ [] → ∃ b off, a = some ⟨b, off, Option.none⟩ ∧ ∀ k, k < xs.length → w.cell? ⟨b, off + k, Option.none⟩ = some (.int q (ix xs k)))
theorem KInts.frame {q : IntKind} {w w' : World} {a : Option Addr} {xs : List Int} (h : KInts q w a xs) (m : Mod NoBlock w w') : KInts q w' a xs :=
  ⟨h.1, fun hx => by
    obtain ⟨b, off, ha, hc⟩ := h.2 hx
    exact ⟨b, off, ha, fun k hk => m.cell (hc k hk) id⟩⟩

section
variable {H : Type} {enc : TypeId × Value → H} {P : Program} {W : World} {base : Nat} {r : Reach}

theorem open_K {q : IntKind} {t : TypeId} {v : Value} {d : DataW H} {p : List MemPlace} (ht : P.underlying t = some (.int q)) (hv : Value.okWide P W r base t v) (h : DataW.Trod enc P W 0 (fun _ => true) true t v d p) :
    ∃ n : Int, v = .int q n ∧ (Lit.int q n).wf = true := by
  obtain ⟨n, h1, _, _, h4⟩ := open_int ht hv h
  exact ⟨n, h1, h4⟩
theorem open_KInts {q : IntKind} {t e : TypeId} {v : Value} {d : DataW H} {p : List MemPlace} (ht : P.underlying t = some (.slice e)) (he : P.underlying e = some (.int q)) (ce : P.cellsOf e = 1)
    (hv : Value.okWide P W r base t v) (h : DataW.Trod enc P W 0 (fun _ => true) true t v d p) :
    ∃ a c xs, v = .slice a xs.length c ∧ KInts q W a xs ∧ ∀ x ∈ xs, (Lit.int q x).wf = true := by
  obtain ⟨a0, len, cap, rfl⟩ := okWide_slice ht hv
  obtain ⟨fuel, hf⟩ := h
  rcases open_ints ht he ce hf with ⟨hcs, hx⟩ | ⟨a, l, c, zs, hcs, _, hl, hm, hz, hx, hcell, hwz⟩
  · simp [Value.cells] at hcs
    obtain ⟨rfl, rfl, rfl⟩ := hcs
    exact ⟨Option.none, 0, [], rfl, ⟨by simp [maxLen], fun h => absurd rfl h⟩, fun x hx => absurd hx (by simp)⟩
  · simp [Value.cells] at hcs
    obtain ⟨rfl, rfl, rfl⟩ := hcs
    simp only [if_true] at hz
    have hlen : (zs.take len).length = len := by rw [List.length_take]; omega
    refine ⟨some a, cap, zs.take len, by rw [hlen], ⟨by rw [hlen]; omega, fun hne => ?_⟩, fun x hx => hwz x (List.mem_of_mem_take hx)⟩
    by_cases h0 : zs.length = 0
    · exact absurd (List.eq_nil_of_length_eq_zero (by omega : (zs.take len).length = 0)) hne
    · obtain ⟨b, off, rfl, hc⟩ := ints_at hcell (by omega)
      refine ⟨b, off, rfl, fun k hk => ?_⟩
      have hk2 : k < len ∧ k < zs.length := by rw [List.length_take] at hk; omega
      rw [hc k hk2.2]
      simp [ix, List.getElem?_take, hk2.1]
end

end Go.Proofs.Ytnacoglfhhenhaa
