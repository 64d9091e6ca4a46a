/-
  What came in, opened: a problem with a match.
-/
import Derived.Test.YtddjkmaigifomaaOpm
import Derived.Test.YtddjkmaigifomaaCx
import Derived.Test.YtddjkmaigifomaaProg
import Derived.Deep.Strs
set_option linter.unusedVariables false
set_option linter.unusedSimpArgs false
namespace Go.Proofs.Ytddjkmaigifomaa
open Go.ChangeShapes Go.WideShapes Go.ChangeAt Go.RowKit Go.Deep

theorem array6 {α : Type} {cs : Array α} (h : cs.size = 6) : ∃ c0 c1 c2 c3 c4 c5, cs = #[c0, c1, c2, c3, c4, c5] := by
  obtain ⟨l⟩ := cs
  match l, h with
  | [c0, c1, c2, c3, c4, c5], _ => exact ⟨c0, c1, c2, c3, c4, c5, rfl⟩

/-- A problem with a match, as it came in. -/
structure PrIn where
  a : Option Addr
  c : Nat
  C : List (List Int)
  b : Option Addr
  d : Nat
  sk : List Int
  aC : Option Addr
  cC : Nat
  cols : List Int
  t : Int
  aU : Option Addr
  cU : Nat
  U : List Int
  aV : Option Addr
  cV : Nat
  V : List Int
def PrIn.val (y : PrIn) : Value := .agg #[.slice y.a y.C.length y.c, .slice y.b y.sk.length y.d, .slice y.aC y.cols.length y.cC, .int .i64 y.t, .slice y.aU y.U.length y.cU, .slice y.aV y.V.length y.cV]
structure PrIn.In (y : PrIn) (W : World) : Prop where
  hC : Mixes Any W y.a y.C
  hS : Ints Any W y.b y.sk
  hc : Ints Any W y.aC y.cols
  hU : Ints Any W y.aU y.U
  hV : Ints Any W y.aV y.V

section
variable {H : Type} {enc : TypeId × Value → H} {P : Program} {W : World} {base : Nat} {r : Reach}

theorem open_ProofAt {t e q : TypeId} {f0 f1 f2 g0 g1 g2 g3 : Field} {v : Value} {d : DataW H} {p : List MemPlace}
    (hs : P.underlying t = some (.struct #[f0, f1, f2])) (hC : P.cellsOf t = 6) (o0 : f0.offset = 0) (o1 : f1.offset = 1) (o2 : f2.offset = 2) (c0 : P.cellsOf f0.type = 1) (c1 : P.cellsOf f1.type = 1) (c2 : P.cellsOf f2.type = 4)
    (hs2 : P.underlying f2.type = some (.struct #[g0, g1, g2, g3])) (p0 : g0.offset = 0) (p1 : g1.offset = 1) (p2 : g2.offset = 2) (p3 : g3.offset = 3) (k0 : P.cellsOf g0.type = 1) (k1 : P.cellsOf g1.type = 1) (k2 : P.cellsOf g2.type = 1) (k3 : P.cellsOf g3.type = 1)
    (ht : P.underlying f0.type = some (.slice e)) (he : P.underlying e = some (.slice q)) (hq : P.underlying q = some (.int .i64)) (ce : P.cellsOf e = 1) (cq : P.cellsOf q = 1)
    (h1t : P.underlying f1.type = some (.slice q)) (h2t : P.underlying g0.type = some (.slice q)) (h3t : P.underlying g1.type = some (.int .i64)) (h4t : P.underlying g2.type = some (.slice q)) (h5t : P.underlying g3.type = some (.slice q))
    (hv : Value.okWide P W r base t v) (h : DataW.Trod enc P W 0 (fun _ => true) true t v d p) (hfz : W.noneFrozen p) :
    ∃ y : PrIn, v = y.val ∧ y.In W := by
  obtain ⟨cs, rfl, hsz⟩ := okWide_struct hs hv
  obtain ⟨u0, u1, u2, u3, u4, u5, rfl⟩ := array6 (hsz.trans hC)
  obtain ⟨fuel, hf⟩ := h
  obtain ⟨y0, y1, y2, n, hx, _, r0, r1, r2⟩ := trod_struct3 hs hf
  obtain ⟨z0, z1, z2, z3, n2, hx2, _, s0, s1, s2, s3⟩ := Go.Joins.trod_struct4 hs2 r2
  simp [Value.cells, o0, o1, o2, c0, c1, c2] at r0 r1
  simp [Value.cells, o2, c2, p0, p1, p2, p3, k0, k1, k2, k3] at s0 s1 s2 s3
  simp only [Prod.mk.injEq] at hx
  have hp : p = y0.2 ++ (y1.2 ++ y2.2) := hx.2
  rw [hp] at hfz
  have hp2 : y2.2 = z0.2 ++ (z1.2 ++ (z2.2 ++ z3.2)) := by rw [hx2]
  rw [hp2] at hfz
  obtain ⟨a, c, C, e0, m0, _, _⟩ := mixes_of_trod ht he hq ce cq r0 (fun b off hm => hfz b off (by simp [hm]))
  obtain ⟨b, dd, sk, e1, m1, _, _⟩ := ints_of_trod h1t hq cq r1 (fun b off hm => hfz b off (by simp [hm]))
  obtain ⟨aC, cC, cols, e2, m2, _, _⟩ := ints_of_trod h2t hq cq s0 (fun b off hm => hfz b off (by simp [hm]))
  obtain ⟨t, e3, _, _⟩ := DataW.trod_int h3t s1
  obtain ⟨aU, cU, U, e4, m4, _, _⟩ := ints_of_trod h4t hq cq s2 (fun b off hm => hfz b off (by simp [hm]))
  obtain ⟨aV, cV, V, e5, m5, _, _⟩ := ints_of_trod h5t hq cq s3 (fun b off hm => hfz b off (by simp [hm]))
  refine ⟨⟨a, c, C, b, dd, sk, aC, cC, cols, t, aU, cU, U, aV, cV, V⟩, ?_, ⟨m0, m1, m2, m4, m5⟩⟩
  simp only [List.cons.injEq, and_true] at e0 e1 e2 e3 e4 e5
  unfold PrIn.val
  rw [e0, e1, e2, e3, e4, e5]
end

theorem open_Proof {H : Type} {enc : TypeId × Value → H} {W : World} {base : Nat} {r : Reach} {v : Value} {d : DataW H} {p : List MemPlace}
    (hv : Value.okWide Try.prog W r base 38 v) (h : DataW.Trod enc Try.prog W 0 (fun _ => true) true 38 v d p) (hfz : W.noneFrozen p) :
    ∃ y : PrIn, v = y.val ∧ y.In W :=
  open_ProofAt Try.underlying38 (by kernel_rfl) rfl rfl rfl (by kernel_rfl) (by kernel_rfl) (by kernel_rfl)
    Try.underlying29 rfl rfl rfl rfl (by kernel_rfl) (by kernel_rfl) (by kernel_rfl) (by kernel_rfl)
    Try.underlying22 Try.underlying23 Try.underlying3 (by kernel_rfl) (by kernel_rfl)
    Try.underlying23 Try.underlying23 Try.underlying3 Try.underlying23 Try.underlying23 hv h hfz

end Go.Proofs.Ytddjkmaigifomaa
