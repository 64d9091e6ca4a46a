/-
  What came in, opened: a number; a slice of numbers; a slice of slices of numbers. And a law's last step, whatever its arguments are.
-/
import Derived.Test.YtnpdkpbecmpdbaaOwn
import Derived.ProofKit
import Derived.OpenShut
import Derived.ChangeOld
import Derived.Deep.Matrix
set_option linter.unusedVariables false
set_option linter.unusedSimpArgs false
namespace Go.Proofs.Ytnpdkpbecmpdbaa
open Go.ChangeShapes Go.WideShapes Go.ChangeAt Go.RowKit

/-- All blocks. -/
def Any : Nat → Prop := fun _ => True
/-- The numbers are int's. -/
def I64 (x : Int) : Prop := -9223372036854775808 ≤ x ∧ x ≤ 9223372036854775807
theorem i64_of_wf {n : Int} (h : (Lit.int .i64 n).wf = true) : I64 n := by
  simpa [Lit.wf, IntKind.min, IntKind.max, IntKind.signed, IntKind.bits, I64] using h
theorem ix_i64 {xs : List Int} (h : ∀ x ∈ xs, I64 x) (k : Nat) : I64 (ix xs k) := by
  by_cases hk : k < xs.length
  · rw [ix_eq hk]; exact h _ (List.getElem_mem hk)
  · have : ix xs k = 0 := by simp [ix, List.getElem?_eq_none (show xs.length ≤ k by omega)]
    rw [this]; unfold I64; omega

section
variable {H : Type} {enc : TypeId × Value → H} {P : Program} {W : World} {base : Nat} {r : Reach}

theorem open_Int {t : TypeId} {v : Value} {d : DataW H} {p : List MemPlace} (ht : P.underlying t = some (.int .i64)) (hv : Value.okWide P W r base t v) (h : DataW.Trod enc P W 0 (fun _ => true) true t v d p) :
    ∃ n : Int, v = .int .i64 n ∧ I64 n := by
  obtain ⟨n, h1, _, _, h4⟩ := open_int ht hv h
  exact ⟨n, h1, i64_of_wf h4⟩

theorem ints_of_row {b off len : Nat} {zs : List Int} (hl : len ≤ zs.length) (hm : zs.length ≤ maxLen) (hc : ∀ i, i < zs.length → W.cell? ⟨b, off + i, Option.none⟩ = some (.int .i64 (zs.getD i 0)))
    (hf : ∀ i, i < zs.length → W.frozen? ⟨b, off + i, Option.none⟩ = false) : Ints Any W (some ⟨b, off, Option.none⟩) (zs.take len) := by
  refine ⟨by rw [List.length_take]; omega, fun _ => ⟨b, off, rfl, trivial, fun k hk => ?_⟩⟩
  have hk2 : k < len ∧ k < zs.length := by rw [List.length_take] at hk; omega
  refine ⟨?_, hf k hk2.2⟩
  rw [hc k hk2.2]
  simp [ix, List.getElem?_take, hk2.1]

theorem open_Ints {t e : TypeId} {v : Value} {d : DataW H} {p : List MemPlace} (ht : P.underlying t = some (.slice e)) (he : P.underlying e = some (.int .i64)) (ce : P.cellsOf e = 1)
    (hv : Value.okWide P W r base t v) (h : DataW.Trod enc P W 0 (fun _ => true) true t v d p) (hfz : W.noneFrozen p) :
    ∃ a c xs, v = .slice a xs.length c ∧ Ints Any W a xs ∧ xs.length ≤ c ∧ ∀ x ∈ xs, I64 x := by
  obtain ⟨a0, len, cap, rfl⟩ := okWide_slice ht hv
  obtain ⟨fuel, hf⟩ := h
  rcases open_ints ht he ce hf with ⟨hcs, hx⟩ | ⟨a, l, c, zs, hcs, _, hl, hm, hz, hx, hcell, hwz⟩
  · simp [Value.cells] at hcs
    obtain ⟨rfl, rfl, rfl⟩ := hcs
    exact ⟨Option.none, 0, [], rfl, Ints.nil _ _ _, Nat.le_refl _, fun x hx => absurd hx (by simp)⟩
  · simp [Value.cells] at hcs
    obtain ⟨rfl, rfl, rfl⟩ := hcs
    simp only [if_true] at hz
    simp only [Prod.mk.injEq] at hx
    have hlen : (zs.take len).length = len := by rw [List.length_take]; omega
    refine ⟨some a, cap, zs.take len, by rw [hlen], ?_, by omega, fun x hx => i64_of_wf (hwz x (List.mem_of_mem_take hx))⟩
    by_cases h0 : zs.length = 0
    · have : zs.take len = [] := List.eq_nil_of_length_eq_zero (by omega)
      rw [this]; exact Ints.nil _ _ _
    · obtain ⟨b, off, rfl, hc⟩ := ints_at hcell (by omega)
      refine ints_of_row (by omega) (by omega) hc fun i hi => ?_
      exact hfz b (off + i) (by rw [hx.2]; exact MemPlace.mem_row.2 ⟨i, hi, rfl⟩)

/-- The arguments read as they did. -/
theorem trodAll_below (hl : laidOutB P = true) {W' : World} (hb : Below W.heap.size W W') : ∀ (ts : List TypeId) (vs : List Value) (ds : List (DataW H)) (ps : List MemPlace), (∀ t ∈ ts, P.readableRec t = true ∧ t < P.types.size) →
    DataW.TrodAll enc P W 0 (fun _ => true) true ts vs ds ps → (∀ x ∈ ps, x.block < W.heap.size) → DataW.TrodAll enc P W' 0 (fun b => decide (b < W.heap.size)) true ts vs ds ps
  | [], vs, ds, ps, _, h, _ => by
    obtain ⟨rfl, rfl, rfl⟩ := trodAll_nil h
    exact trodAll_mk0
  | t :: ts, vs, ds, ps, ht, h, hlt => by
    obtain ⟨v0, vs0, d0, ds0, p0, q0, rfl, rfl, rfl, h0, r0⟩ := trodAll_cons h
    obtain ⟨h1, h2⟩ := ht t List.mem_cons_self
    exact trodAll_cons_mk (Below.trod hl h1 h2 h0 hb fun x hx => hlt x (List.mem_append_left _ hx))
      (trodAll_below hl hb ts vs0 ds0 q0 (fun t ht' => ht t (List.mem_cons_of_mem _ ht')) r0 fun x hx => hlt x (List.mem_append_right _ hx))
end

end Go.Proofs.Ytnpdkpbecmpdbaa
