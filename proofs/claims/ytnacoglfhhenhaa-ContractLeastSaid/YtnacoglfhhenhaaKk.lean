/-
  contract: the laws' own fixed example, walked.
-/
import Derived.Test.YtnacoglfhhenhaaKj
import Derived.Test.YtnacoglfhhenhaaKd
import Derived.Deep.RegionHeld3
import Derived.Deep.RegionLaw
set_option linter.unusedVariables false
set_option linter.unusedSimpArgs false
namespace Go.Proofs.Ytnacoglfhhenhaa
open Go.RowKit

def exL : List Ctr := [⟨1, 0, 0, 1000, 0, 0, 0⟩, ⟨2, 0, 0, 2000, 0, 0, 0⟩]
def exG : List (Int × Int) := [(900, 10)]
def exB : List Bal := [⟨1, 0, 0, [1500]⟩, ⟨2, 0, 0, [900]⟩]
def exC : Ctr := ⟨1, 0, 0, 20000, 1000, 50000, 8000⟩
theorem exG_chk : chkG exG = 0 := by decide
theorem exL_ok : ∀ i, i < exL.length → ctrE 1 (cx exL i) = 0 := by decide
theorem exL_nodup : ¬ Dup exL := fun ⟨i, j, h1, h2, h3⟩ => by
  have hi : i < 2 := h2
  obtain rfl : i = 1 := by omega
  obtain rfl : j = 0 := by omega
  exact absurd h3 (by decide)
theorem exL_chk : chkC exL exG.length = 0 := chkC_ok (by decide) exL_ok exL_nodup
theorem ex_costs : costsL exG exL exB = [[0, 100], [500, 1100]] := by decide
theorem ex_skip : skipL exL = [1000, 2000] := by decide
theorem ex_err : errA exG exL exB = 0 := by
  unfold errA
  rw [if_neg (by rw [exG_chk]; decide), if_neg (by rw [exL_chk]; decide), ex_costs, ex_skip]
  decide
theorem ex_first {t : Int} {wf : Nat → Nat} (h : First (tabM [[0, 100], [500, 1100]] [1000, 2000] 2) 2 2 t wf) : t = 600 ∧ rowI 2 (colZ 2 wf) = [1, 0] := by
  have h0 := h.asg.lt 0 (by omega)
  have h1 := h.asg.lt 1 (by omega)
  have hne : wf 0 ≠ wf 1 := fun e => by have := h.asg.inj 0 1 (by omega) (by omega) e; omega
  have hc := h.cost
  have hl := h.least (fun r => if r = 0 then 1 else 0) ⟨fun r hr => by show (if r = 0 then 1 else 0) < 4; split <;> omega, fun r r' hr hr' e => by
    rcases (by omega : r = 0 ∨ r = 1) with rfl | rfl <;> rcases (by omega : r' = 0 ∨ r' = 1) with rfl | rfl <;> simp at e ⊢⟩
  have e3 : cost (tabM [[0, 100], [500, 1100]] [1000, 2000] 2) 2 (fun r => if r = 0 then 1 else 0) = 600 := by decide
  rw [e3] at hl
  have ec : cost (tabM [[0, 100], [500, 1100]] [1000, 2000] 2) 2 wf = tabM [[0, 100], [500, 1100]] [1000, 2000] 2 0 (wf 0) + tabM [[0, 100], [500, 1100]] [1000, 2000] 2 1 (wf 1) := by
    simp [cost, sumR]
  rw [ec] at hc
  have key : ∀ a, a < 4 → ∀ b, b < 4 → a ≠ b → tabM [[0, 100], [500, 1100]] [1000, 2000] 2 0 a + tabM [[0, 100], [500, 1100]] [1000, 2000] 2 1 b ≤ 600 → a = 1 ∧ b = 0 := by decide
  obtain ⟨e0, e1⟩ := key (wf 0) h0 (wf 1) h1 hne (by omega)
  rw [e0, e1] at hc
  refine ⟨by rw [← hc]; decide, ?_⟩
  show [colZ 2 wf 0, colZ 2 wf 1] = [1, 0]
  unfold colZ
  rw [e0, e1]
  rfl
theorem ex_asg {cols : List Int} {t : Int} (h : AsgIs exG exL exB cols t) : cols = [1, 0] ∧ t = 600 := by
  rcases h with ⟨e, _⟩ | ⟨_, wf, hF, rfl⟩
  · exact absurd ex_err e
  · rw [ex_costs, ex_skip] at hF
    obtain ⟨h1, h2⟩ := ex_first hF
    refine ⟨?_, h1⟩
    rw [ex_costs]
    exact h2
theorem ex_set1 : setC exC 18500 = (921, 0) := by decide
theorem ex_set2 : setC exC 30000 = (1050, 0) := by decide
theorem ex_mis : misC exC 18500 = (500, 0) := by decide
theorem ex_fit : fitB ⟨1, 0, 0, 1000, 0, 0, 0⟩ exG ⟨1, 0, 0, [1500]⟩ = true := by decide
def exL3 : List Ctr := [⟨1, 0, 0, 1000, 0, 0, 0⟩, ⟨2, 0, 0, 2000, 0, 0, 0⟩, ⟨1, 0, 0, 1000, 0, 0, 0⟩]
theorem ex_dup : chkC exL3 1 = 6 := chkC_dup (by decide) (by decide) ⟨2, 0, by decide, by decide, by decide⟩

theorem row_cells {w : World} {g t n : Nat} {arr : Array Value} (h : w.rowIs g t n (fun i => arr.getD i undef)) (hn : arr.size ≤ n) : ∀ (j : Nat) (u : Value), arr.toList[j]? = some u → w.cell? ((⟨g, 0, none⟩ : Addr).add j) = some u := by
  intro j u hu
  obtain ⟨hj, rfl⟩ := List.getElem?_eq_some_iff.1 hu
  have hj2 : j < arr.size := by simpa using hj
  rw [add_plain, Nat.zero_add, h.cell (i := j) (by omega)]
  simp [Array.getD, hj2]
def KAll : Nat → Prop := fun _ => True
theorem step_append_guarded {P : Program} {ops : Array Oper} {o : Oper} {a : Act} {w : World} {K : Act → World → Prop} {Q : Exit → Act → World → Prop} {E : Prop}
    (hw : Region.wanted o (yielded ops a.tmps) = true) (s x : Operand) (t : TypeId) (hop : o.op = Op.call { callee := Callee.builtin Builtin.append, args := #[s, x], argTypes := #[t, t] })
    (e : TypeId) (i : TypeInfo) (z : Value) (size bytes : Nat) (h1 : P.underlying t = some (.slice e)) (h2 : P.info? e = some i) (h3 : i.zero = some z) (h4 : i.size = size) (h5 : i.bytes = bytes) (h6 : z.cells.size = size) (h7 : 0 < size)
    (b : Addr) (n cap : Nat) (olds : List Value) (hs : a.eval s = .slice (some b) n cap) (hlo : olds.length = n * size) (holds : ∀ j u, olds[j]? = some u → w.cell? (b.add j) = some u)
    (ad : Addr) (m c : Nat) (news : List Value) (hx : a.eval x = .slice (some ad) m c) (hn : news.length = m * size) (hc : ∀ j u, news[j]? = some u → w.cell? (ad.add j) = some u) (h1c : ∀ u ∈ news, u.oneCell' = true)
    (hfull : cap < n + m) (b1 : n + m ≤ maxLen) (b2 : (n + m) * bytes ≤ 140737488355328)
    (hK : ∀ v' w', w'.ownsRow w.heap.size e size v' (n + m) (olds ++ news) → w.grownBy w' none → K (a.put o.dst v') w') :
    if Region.wanted o (yielded ops a.tmps) = true then Oper.wp P o a w K Q else E := by
  rw [if_pos hw]
  obtain ⟨v', w', hrun, r1, r2⟩ := run_append_arg_grows (P := P) w t o.type e i z size bytes h1 h2 h3 h4 h5 h6 h7 b n cap olds hlo holds ad m c news hn hc hfull b1 b2
  unfold Oper.wp
  simp [execOp, hop, resolve, invoke, builtin, hs, hx, hrun, Result.andThen]
  exact hK v' w' r1 r2

/-- What lies in memory in the example. -/
structure ExMem (w : World) (s : Nat) : Prop where
  gr : w.rowIs s 51 2 (fun i => (#[.int .i64 900, .int .i64 10] : Array Value).getD i undef)
  ct : w.rowIs (s + 1) 28 14 (fun i => (#[.int .i64 1, .int .i64 0, .int .i64 0, .int .i64 1000, .int .i64 0, .int .i64 0, .int .i64 0, .int .i64 2, .int .i64 0, .int .i64 0, .int .i64 2000, .int .i64 0, .int .i64 0, .int .i64 0] : Array Value).getD i undef)
  m1 : w.rowIs (s + 1 + 1) 3 1 (fun i => (#[.int .i64 1500] : Array Value).getD i undef)
  m2 : w.rowIs (s + 1 + 1 + 1) 3 1 (fun i => (#[.int .i64 900] : Array Value).getD i undef)
  ba : w.rowIs (s + 1 + 1 + 1 + 1) 33 8 (fun i => (#[.int .i64 1, .int .i64 0, .int .i64 0, .slice (some ⟨s + 1 + 1, 0, none⟩) 1 1, .int .i64 2, .int .i64 0, .int .i64 0, .slice (some ⟨s + 1 + 1 + 1, 0, none⟩) 1 1] : Array Value).getD i undef)
theorem ExMem.frame {w w' : World} {s : Nat} (h : ExMem w s) (m : Mod NoBlock w w') : ExMem w' s :=
  ⟨h.gr.of_block (m.block _ h.gr.lt id), h.ct.of_block (m.block _ h.ct.lt id), h.m1.of_block (m.block _ h.m1.lt id), h.m2.of_block (m.block _ h.m2.lt id), h.ba.of_block (m.block _ h.ba.lt id)⟩
theorem ExMem.grs {w : World} {s : Nat} (h : ExMem w s) : Grs KAll w (some ⟨s, 0, none⟩) exG :=
  ⟨by decide, fun _ => ⟨s, 0, rfl, trivial, fun k hk => by
    obtain rfl : k = 0 := by have : k < 1 := hk; omega
    exact ⟨h.gr.cell (i := 0) (by decide), h.gr.cell (i := 1) (by decide)⟩⟩⟩
theorem ExMem.ctrs {w : World} {s : Nat} (h : ExMem w s) : Ctrs KAll w (some ⟨s + 1, 0, none⟩) exL :=
  ⟨by decide, fun _ => ⟨s + 1, 0, rfl, trivial, fun k hk => by
    have hk : k < 2 := hk
    rcases (by omega : k = 0 ∨ k = 1) with rfl | rfl
    · exact ⟨h.ct.cell (i := 0) (by decide), h.ct.cell (i := 1) (by decide), h.ct.cell (i := 2) (by decide), h.ct.cell (i := 3) (by decide), h.ct.cell (i := 4) (by decide), h.ct.cell (i := 5) (by decide), h.ct.cell (i := 6) (by decide)⟩
    · exact ⟨h.ct.cell (i := 7) (by decide), h.ct.cell (i := 8) (by decide), h.ct.cell (i := 9) (by decide), h.ct.cell (i := 10) (by decide), h.ct.cell (i := 11) (by decide), h.ct.cell (i := 12) (by decide), h.ct.cell (i := 13) (by decide)⟩⟩⟩
theorem ints_row1 {w : World} {s : Nat} {x : Int} (h : w.rowIs s 3 1 (fun i => (#[.int .i64 x] : Array Value).getD i undef)) : Ints KAll w (some ⟨s, 0, none⟩) [x] := by
  refine Ints.of_row (xs := [x]) h (by simp) (by simp [maxLen]) ?_ trivial
  intro k hk
  have hk : k < 1 := hk
  obtain rfl : k = 0 := by omega
  rfl
theorem ints_row2 {w : World} {s : Nat} {x y : Int} (h : w.rowIs s 3 2 (fun i => (#[.int .i64 x, .int .i64 y] : Array Value).getD i undef)) : Ints KAll w (some ⟨s, 0, none⟩) [x, y] := by
  refine Ints.of_row (xs := [x, y]) h (by simp) (by simp [maxLen]) ?_ trivial
  intro k hk
  have hk : k < 2 := hk
  rcases (by omega : k = 0 ∨ k = 1) with rfl | rfl <;> rfl
theorem ExMem.bals {w : World} {s : Nat} (h : ExMem w s) : Bals KAll w (some ⟨s + 1 + 1 + 1 + 1, 0, none⟩) exB :=
  ⟨by decide, fun _ => ⟨s + 1 + 1 + 1 + 1, 0, rfl, trivial, fun k hk => by
    have hk : k < 2 := hk
    rcases (by omega : k = 0 ∨ k = 1) with rfl | rfl
    · exact ⟨_, _, h.ba.cell (i := 0) (by decide), h.ba.cell (i := 1) (by decide), h.ba.cell (i := 2) (by decide), h.ba.cell (i := 3) (by decide), ints_row1 h.m1⟩
    · exact ⟨_, _, h.ba.cell (i := 4) (by decide), h.ba.cell (i := 5) (by decide), h.ba.cell (i := 6) (by decide), h.ba.cell (i := 7) (by decide), ints_row1 h.m2⟩⟩⟩
theorem exMem_at (w : World) : ExMem (((((w.alloc (.cells #[.int .i64 900, .int .i64 10] 51)).alloc (.cells #[.int .i64 1, .int .i64 0, .int .i64 0, .int .i64 1000, .int .i64 0, .int .i64 0, .int .i64 0, .int .i64 2, .int .i64 0, .int .i64 0, .int .i64 2000, .int .i64 0, .int .i64 0, .int .i64 0] 28)).alloc (.cells #[.int .i64 1500] 3)).alloc (.cells #[.int .i64 900] 3)).alloc (.cells #[.int .i64 1, .int .i64 0, .int .i64 0, .slice (some ⟨w.heap.size + 1 + 1, 0, none⟩) 1 1, .int .i64 2, .int .i64 0, .int .i64 0, .slice (some ⟨w.heap.size + 1 + 1 + 1, 0, none⟩) 1 1] 33)) w.heap.size := by
  have e1 : (w.alloc (.cells #[.int .i64 900, .int .i64 10] 51)).heap.size = w.heap.size + 1 := by simp
  have e2 : ((w.alloc (.cells #[.int .i64 900, .int .i64 10] 51)).alloc (.cells #[.int .i64 1, .int .i64 0, .int .i64 0, .int .i64 1000, .int .i64 0, .int .i64 0, .int .i64 0, .int .i64 2, .int .i64 0, .int .i64 0, .int .i64 2000, .int .i64 0, .int .i64 0, .int .i64 0] 28)).heap.size = w.heap.size + 1 + 1 := by simp
  have e3 : (((w.alloc (.cells #[.int .i64 900, .int .i64 10] 51)).alloc (.cells #[.int .i64 1, .int .i64 0, .int .i64 0, .int .i64 1000, .int .i64 0, .int .i64 0, .int .i64 0, .int .i64 2, .int .i64 0, .int .i64 0, .int .i64 2000, .int .i64 0, .int .i64 0, .int .i64 0] 28)).alloc (.cells #[.int .i64 1500] 3)).heap.size = w.heap.size + 1 + 1 + 1 := by simp
  have e4 : ((((w.alloc (.cells #[.int .i64 900, .int .i64 10] 51)).alloc (.cells #[.int .i64 1, .int .i64 0, .int .i64 0, .int .i64 1000, .int .i64 0, .int .i64 0, .int .i64 0, .int .i64 2, .int .i64 0, .int .i64 0, .int .i64 2000, .int .i64 0, .int .i64 0, .int .i64 0] 28)).alloc (.cells #[.int .i64 1500] 3)).alloc (.cells #[.int .i64 900] 3)).heap.size = w.heap.size + 1 + 1 + 1 + 1 := by simp
  have r1 := rowIs_new w #[.int .i64 900, .int .i64 10] 51
  have r2 := rowIs_new (w.alloc (.cells #[.int .i64 900, .int .i64 10] 51)) #[.int .i64 1, .int .i64 0, .int .i64 0, .int .i64 1000, .int .i64 0, .int .i64 0, .int .i64 0, .int .i64 2, .int .i64 0, .int .i64 0, .int .i64 2000, .int .i64 0, .int .i64 0, .int .i64 0] 28
  have r3 := rowIs_new ((w.alloc (.cells #[.int .i64 900, .int .i64 10] 51)).alloc (.cells #[.int .i64 1, .int .i64 0, .int .i64 0, .int .i64 1000, .int .i64 0, .int .i64 0, .int .i64 0, .int .i64 2, .int .i64 0, .int .i64 0, .int .i64 2000, .int .i64 0, .int .i64 0, .int .i64 0] 28)) #[.int .i64 1500] 3
  have r4 := rowIs_new (((w.alloc (.cells #[.int .i64 900, .int .i64 10] 51)).alloc (.cells #[.int .i64 1, .int .i64 0, .int .i64 0, .int .i64 1000, .int .i64 0, .int .i64 0, .int .i64 0, .int .i64 2, .int .i64 0, .int .i64 0, .int .i64 2000, .int .i64 0, .int .i64 0, .int .i64 0] 28)).alloc (.cells #[.int .i64 1500] 3)) #[.int .i64 900] 3
  have r5 := rowIs_new ((((w.alloc (.cells #[.int .i64 900, .int .i64 10] 51)).alloc (.cells #[.int .i64 1, .int .i64 0, .int .i64 0, .int .i64 1000, .int .i64 0, .int .i64 0, .int .i64 0, .int .i64 2, .int .i64 0, .int .i64 0, .int .i64 2000, .int .i64 0, .int .i64 0, .int .i64 0] 28)).alloc (.cells #[.int .i64 1500] 3)).alloc (.cells #[.int .i64 900] 3)) #[.int .i64 1, .int .i64 0, .int .i64 0, .slice (some ⟨w.heap.size + 1 + 1, 0, none⟩) 1 1, .int .i64 2, .int .i64 0, .int .i64 0, .slice (some ⟨w.heap.size + 1 + 1 + 1, 0, none⟩) 1 1] 33
  rw [e1] at r2
  rw [e2] at r3
  rw [e3] at r4
  rw [e4] at r5
  exact ⟨(((r1.alloc _).alloc _).alloc _).alloc _, ((r2.alloc _).alloc _).alloc _, (r3.alloc _).alloc _, r4.alloc _, r5⟩

def exA2 : Array Value := #[.int .i64 1, .int .i64 0, .int .i64 0, .int .i64 1000, .int .i64 0, .int .i64 0, .int .i64 0, .int .i64 2, .int .i64 0, .int .i64 0, .int .i64 2000, .int .i64 0, .int .i64 0, .int .i64 0]
def exA1 : Array Value := #[.int .i64 1, .int .i64 0, .int .i64 0, .int .i64 1000, .int .i64 0, .int .i64 0, .int .i64 0]
theorem exL3_at {w : World} {B : Nat} {v : Value} (h : w.ownsRow B 28 7 v 3 (exA2.toList ++ exA1.toList)) : ∃ a c, v = .slice a 3 c ∧ 3 ≤ c ∧ Ctrs KAll w a exL3 := by
  rcases h.2 with ⟨_, h1⟩ | ⟨g, cap, cur, rfl, _, _, hcap, _⟩
  · cases h1
  · refine ⟨_, cap, rfl, hcap, by decide, fun _ => ⟨g, 0, rfl, trivial, fun k hk => ?_⟩⟩
    have hc : ∀ (j : Nat) (u : Value), (exA2.toList ++ exA1.toList)[j]? = some u → w.cell? ⟨g, j, none⟩ = some u := fun j u hu => by
      have := h.cells rfl j u hu
      rwa [add_plain, Nat.zero_add] at this
    have hk : k < 3 := hk
    rcases (by omega : k = 0 ∨ k = 1 ∨ k = 2) with rfl | rfl | rfl
    · exact ⟨hc 0 _ rfl, hc 1 _ rfl, hc 2 _ rfl, hc 3 _ rfl, hc 4 _ rfl, hc 5 _ rfl, hc 6 _ rfl⟩
    · exact ⟨hc 7 _ rfl, hc 8 _ rfl, hc 9 _ rfl, hc 10 _ rfl, hc 11 _ rfl, hc 12 _ rfl, hc 13 _ rfl⟩
    · exact ⟨hc 14 _ rfl, hc 15 _ rfl, hc 16 _ rfl, hc 17 _ rfl, hc 18 _ rfl, hc 19 _ rfl, hc 20 _ rfl⟩

end Go.Proofs.Ytnacoglfhhenhaa
