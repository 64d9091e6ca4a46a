/-
  What came in, opened: a pair of numbers.
-/
import Derived.Test.YtgoccfjmghhaoaaCx
set_option linter.unusedVariables false
set_option linter.unusedSimpArgs false
namespace Go.Proofs.Ytgoccfjmghhaoaa
open Go.ChangeShapes Go.WideShapes Go.ChangeAt Go.RowKit Go.Deep

section
variable {H : Type} {enc : TypeId × Value → H} {P : Program} {W : World} {base : Nat} {r : Reach}

theorem open_Int2 {t q : TypeId} {v : Value} {d : DataW H} {p : List MemPlace} (ht : P.underlying t = some (.array 2 q)) (hq : P.underlying q = some (.int .i64)) (ct : P.cellsOf t = 2) (cq : P.cellsOf q = 1)
    (hv : Value.okWide P W r base t v) (h : DataW.Trod enc P W 0 (fun _ => true) true t v d p) :
    ∃ x y : Int, v = .agg #[.int .i64 x, .int .i64 y] ∧ I64 x ∧ I64 y := by
  obtain ⟨fuel, hf⟩ := h
  have hv' : ∃ c0 c1, v = .agg #[c0, c1] := by
    simp only [Value.okWide, ht] at hv
    obtain ⟨cs, h1, h2, _⟩ := hv
    rw [ct] at h2
    obtain ⟨l⟩ := cs
    match l, h2 with
    | [c0, c1], _ => exact ⟨c0, c1, h1⟩
  obtain ⟨c0, c1, rfl⟩ := hv'
  obtain ⟨ys, n', hn', hy, hlen, hyl, hf⟩ := DataW.trod_array ht hf
  rw [cq] at hf
  match ys, hyl with
  | [y0, y1], _ =>
    have f0 := hf 0 (by omega)
    have f1 := hf 1 (by omega)
    simp [Value.cells] at f0 f1
    obtain ⟨x, e0, _, w0⟩ := DataW.trod_int hq f0
    obtain ⟨y, e1, _, w1⟩ := DataW.trod_int hq f1
    obtain rfl : c0 = _ := by simpa using e0
    obtain rfl : c1 = _ := by simpa using e1
    exact ⟨x, y, rfl, i64_of_wf w0, i64_of_wf w1⟩
end

end Go.Proofs.Ytgoccfjmghhaoaa
