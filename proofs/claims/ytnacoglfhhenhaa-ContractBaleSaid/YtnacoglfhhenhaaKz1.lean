/-
  Several texts in one.
-/
import Derived.Test.YtnacoglfhhenhaaKg
import Derived.Deep.QuietTactic
import Derived.BigQuiet
import Derived.Test.YtnacoglfhhenhaaKd
import Derived.Deep.RegionHeld3
import Derived.Deep.RegionLaw
import Derived.Test.YtnacoglfhhenhaaKo
import Derived.Test.YtnacoglfhhenhaaGo1
set_option linter.unusedVariables false
set_option linter.unusedSimpArgs false
/-
  contract: the reference's Ints.
-/
namespace Go.Proofs.Ytnacoglfhhenhaa
open Go.RowKit

theorem take_eq_stepK {xs ys : List Int} {k : Nat} (hx : k < xs.length) (hy : k < ys.length) (h : xs.take k = ys.take k) (e : ix xs k = ix ys k) : xs.take (k + 1) = ys.take (k + 1) := by
  rw [List.take_succ_eq_append_getElem hx, List.take_succ_eq_append_getElem hy, h]
  simp only [ix_eq hx, ix_eq hy] at e
  rw [e]
set_option maxHeartbeats 400000 in
theorem ints52_any (a1 a2 : Option Addr) (c1 c2 : Nat) (xs ys : List Int) (D1 D2 : Nat → Prop) (w : World) (hx : Ints D1 w a1 xs) (hy : Ints D2 w a2 ys) :
    Calls Try.prog 18 #[.slice a1 xs.length c1, .slice a2 ys.length c2] w fun e w' => e = .returned (.bool (decide (xs = ys))) ∧ Drawn w w' := by
  obtain ⟨lx, b1, o1, hb1, hc1⟩ := hx.open
  obtain ⟨ly, b2, o2, hb2, hc2⟩ := hy.open
  clear hx hy
  by_cases hl : xs.length = ys.length
  · have hl1 : xs.length ≤ ys.length := by omega
    have hl2 : ys.length ≤ xs.length := by omega
    have hl' := Lib.hid hl
    clear hl
    go_enter Try.func18, Try.ntmps18
    go_wp2
    go_loopw [13] (fun i wr => ∃ k : Nat, k ≤ xs.length ∧ i = .int .i64 k ∧ xs.take k = ys.take k ∧ ∃ n, wr = w.drewN n) (fun i _ => xs.length - (intOf i).toNat)
    case atStart => exact ⟨0, by omega, rfl, rfl, 0, rfl⟩
    case round =>
      obtain ⟨k, hk, rfl, ht, n, rfl⟩ := hrel
      have ht' := Lib.hid ht
      clear ht
      by_cases hlt : k < xs.length
      · have h1 := hc1 k hlt
        have h2 := hc2 k (by omega)
        have q1 : (k : Int) < (xs.length : Int) := by omega
        have q2 : (k : Int) < (ys.length : Int) := by omega
        obtain rfl := hb1 (by intro h; simp [h] at hlt)
        obtain rfl := hb2 (by intro h; rw [h] at hl1; simp at hl1; simp [hl1] at hlt)
        clear hb1 hb2 hc1 hc2
        by_cases he : ix xs k = ix ys k
        · have hd : (ix xs k != ix ys k) = false := by simpa using he
          have he' := Lib.hid he
          clear he
          go_wp2
          go_quiet (fail)
          go_wp2
          exact ⟨⟨k + 1, by omega, by go_num, take_eq_stepK hlt (by omega) ht'.out he'.out, _, rfl⟩, by simp [intOf]; omega⟩
        · have hd : (ix xs k != ix ys k) = true := by simpa using he
          have he' := Lib.hid he
          clear he
          go_wp2
          go_quiet (fail)
          go_wp2
          go_ret
          refine ⟨ret_bool ?_, (Drawn.mk _ _).trans (Drawn.mk _ _)⟩
          exact (decide_eq_false fun h => he'.out (by rw [h])).symm
      · go_wp2
        go_ret
        refine ⟨ret_bool ?_, Drawn.mk _ _⟩
        have hk' : k = xs.length := by omega
        rw [hk'] at ht'
        have h3 := ht'.out
        rw [List.take_of_length_le (by omega), List.take_of_length_le (by omega)] at h3
        exact (decide_eq_true h3).symm
  · have hd : ((xs.length : Int) != (ys.length : Int)) = true := bne_iff_ne.2 (by omega)
    go_enter Try.func18, Try.ntmps18
    go_wp2
    go_ret
    exact ⟨ret_bool (decide_eq_false fun h => hl (by rw [h])).symm, Drawn.refl _⟩

end Go.Proofs.Ytnacoglfhhenhaa

/-
  contract: the laws' own fixed example, walked.
-/
namespace Go.Proofs.Ytnacoglfhhenhaa
open Go.RowKit

def exL : List Ctr := [⟨1, 0, 0, 1000, 0, 0, 0⟩, ⟨2, 0, 0, 2000, 0, 0, 0⟩]
def exG : List (Int × Int) := [(900, 10)]
def exB : List Bal := [⟨1, 0, 0, [1500]⟩, ⟨2, 0, 0, [900]⟩]
def exC : Ctr := ⟨1, 0, 0, 20000, 1000, 50000, 8000⟩
theorem exG_chk : chkG exG = 0 := by decide
theorem exL_ok : ∀ i, i < exL.length → ctrE 1 (cx exL i) = 0 := by decide
theorem exL_nodup : ¬ Dup exL := fun ⟨i, j, h1, h2, h3⟩ => by
  have hi : i < 2 := h2
  obtain rfl : i = 1 := by omega
  obtain rfl : j = 0 := by omega
  exact absurd h3 (by decide)
theorem exL_chk : chkC exL exG.length = 0 := chkC_ok (by decide) exL_ok exL_nodup
theorem ex_costs : costsL exG exL exB = [[0, 100], [500, 1100]] := by decide
theorem ex_skip : skipL exL = [1000, 2000] := by decide
theorem ex_err : errA exG exL exB = 0 := by
  unfold errA
  rw [if_neg (by rw [exG_chk]; decide), if_neg (by rw [exL_chk]; decide), ex_costs, ex_skip]
  decide
theorem ex_first {t : Int} {wf : Nat → Nat} (h : First (tabM [[0, 100], [500, 1100]] [1000, 2000] 2) 2 2 t wf) : t = 600 ∧ rowI 2 (colZ 2 wf) = [1, 0] := by
  have h0 := h.asg.lt 0 (by omega)
  have h1 := h.asg.lt 1 (by omega)
  have hne : wf 0 ≠ wf 1 := fun e => by have := h.asg.inj 0 1 (by omega) (by omega) e; omega
  have hc := h.cost
  have hl := h.least (fun r => if r = 0 then 1 else 0) ⟨fun r hr => by show (if r = 0 then 1 else 0) < 4; split <;> omega, fun r r' hr hr' e => by
    rcases (by omega : r = 0 ∨ r = 1) with rfl | rfl <;> rcases (by omega : r' = 0 ∨ r' = 1) with rfl | rfl <;> simp at e ⊢⟩
  have e3 : cost (tabM [[0, 100], [500, 1100]] [1000, 2000] 2) 2 (fun r => if r = 0 then 1 else 0) = 600 := by decide
  rw [e3] at hl
  have ec : cost (tabM [[0, 100], [500, 1100]] [1000, 2000] 2) 2 wf = tabM [[0, 100], [500, 1100]] [1000, 2000] 2 0 (wf 0) + tabM [[0, 100], [500, 1100]] [1000, 2000] 2 1 (wf 1) := by
    simp [cost, sumR]
  rw [ec] at hc
  have key : ∀ a, a < 4 → ∀ b, b < 4 → a ≠ b → tabM [[0, 100], [500, 1100]] [1000, 2000] 2 0 a + tabM [[0, 100], [500, 1100]] [1000, 2000] 2 1 b ≤ 600 → a = 1 ∧ b = 0 := by decide
  obtain ⟨e0, e1⟩ := key (wf 0) h0 (wf 1) h1 hne (by omega)
  rw [e0, e1] at hc
  refine ⟨by rw [← hc]; decide, ?_⟩
  show [colZ 2 wf 0, colZ 2 wf 1] = [1, 0]
  unfold colZ
  rw [e0, e1]
  rfl
theorem ex_asg {cols : List Int} {t : Int} (h : AsgIs exG exL exB cols t) : cols = [1, 0] ∧ t = 600 := by
  rcases h with ⟨e, _⟩ | ⟨_, wf, hF, rfl⟩
  · exact absurd ex_err e
  · rw [ex_costs, ex_skip] at hF
    obtain ⟨h1, h2⟩ := ex_first hF
    refine ⟨?_, h1⟩
    rw [ex_costs]
    exact h2
theorem ex_set1 : setC exC 18500 = (921, 0) := by decide
theorem ex_set2 : setC exC 30000 = (1050, 0) := by decide
theorem ex_mis : misC exC 18500 = (500, 0) := by decide
theorem ex_fit : fitB ⟨1, 0, 0, 1000, 0, 0, 0⟩ exG ⟨1, 0, 0, [1500]⟩ = true := by decide
def exL3 : List Ctr := [⟨1, 0, 0, 1000, 0, 0, 0⟩, ⟨2, 0, 0, 2000, 0, 0, 0⟩, ⟨1, 0, 0, 1000, 0, 0, 0⟩]
theorem ex_dup : chkC exL3 1 = 6 := chkC_dup (by decide) (by decide) ⟨2, 0, by decide, by decide, by decide⟩

theorem row_cells {w : World} {g t n : Nat} {arr : Array Value} (h : w.rowIs g t n (fun i => arr.getD i undef)) (hn : arr.size ≤ n) : ∀ (j : Nat) (u : Value), arr.toList[j]? = some u → w.cell? ((⟨g, 0, none⟩ : Addr).add j) = some u := by
  intro j u hu
  obtain ⟨hj, rfl⟩ := List.getElem?_eq_some_iff.1 hu
  have hj2 : j < arr.size := by simpa using hj
  rw [add_plain, Nat.zero_add, h.cell (i := j) (by omega)]
  simp [Array.getD, hj2]
def KAll : Nat → Prop := fun _ => True
theorem step_append_guarded {P : Program} {ops : Array Oper} {o : Oper} {a : Act} {w : World} {K : Act → World → Prop} {Q : Exit → Act → World → Prop} {E : Prop}
    (hw : Region.wanted o (yielded ops a.tmps) = true) (s x : Operand) (t : TypeId) (hop : o.op = Op.call { callee := Callee.builtin Builtin.append, args := #[s, x], argTypes := #[t, t] })
    (e : TypeId) (i : TypeInfo) (z : Value) (size bytes : Nat) (h1 : P.underlying t = some (.slice e)) (h2 : P.info? e = some i) (h3 : i.zero = some z) (h4 : i.size = size) (h5 : i.bytes = bytes) (h6 : z.cells.size = size) (h7 : 0 < size)
    (b : Addr) (n cap : Nat) (olds : List Value) (hs : a.eval s = .slice (some b) n cap) (hlo : olds.length = n * size) (holds : ∀ j u, olds[j]? = some u → w.cell? (b.add j) = some u)
    (ad : Addr) (m c : Nat) (news : List Value) (hx : a.eval x = .slice (some ad) m c) (hn : news.length = m * size) (hc : ∀ j u, news[j]? = some u → w.cell? (ad.add j) = some u) (h1c : ∀ u ∈ news, u.oneCell' = true)
    (hfull : cap < n + m) (b1 : n + m ≤ maxLen) (b2 : (n + m) * bytes ≤ 140737488355328)
    (hK : ∀ v' w', w'.ownsRow w.heap.size e size v' (n + m) (olds ++ news) → w.grownBy w' none → K (a.put o.dst v') w') :
    if Region.wanted o (yielded ops a.tmps) = true then Oper.wp P o a w K Q else E := by
  rw [if_pos hw]
  obtain ⟨v', w', hrun, r1, r2⟩ := run_append_arg_grows (P := P) w t o.type e i z size bytes h1 h2 h3 h4 h5 h6 h7 b n cap olds hlo holds ad m c news hn hc hfull b1 b2
  unfold Oper.wp
  simp [execOp, hop, resolve, invoke, builtin, hs, hx, hrun, Result.andThen]
  exact hK v' w' r1 r2

/-- What lies in memory in the example. -/
structure ExMem (w : World) (s : Nat) : Prop where
  gr : w.rowIs s 51 2 (fun i => (#[.int .i64 900, .int .i64 10] : Array Value).getD i undef)
  ct : w.rowIs (s + 1) 28 14 (fun i => (#[.int .i64 1, .int .i64 0, .int .i64 0, .int .i64 1000, .int .i64 0, .int .i64 0, .int .i64 0, .int .i64 2, .int .i64 0, .int .i64 0, .int .i64 2000, .int .i64 0, .int .i64 0, .int .i64 0] : Array Value).getD i undef)
  m1 : w.rowIs (s + 1 + 1) 3 1 (fun i => (#[.int .i64 1500] : Array Value).getD i undef)
  m2 : w.rowIs (s + 1 + 1 + 1) 3 1 (fun i => (#[.int .i64 900] : Array Value).getD i undef)
  ba : w.rowIs (s + 1 + 1 + 1 + 1) 33 8 (fun i => (#[.int .i64 1, .int .i64 0, .int .i64 0, .slice (some ⟨s + 1 + 1, 0, none⟩) 1 1, .int .i64 2, .int .i64 0, .int .i64 0, .slice (some ⟨s + 1 + 1 + 1, 0, none⟩) 1 1] : Array Value).getD i undef)
theorem ExMem.frame {w w' : World} {s : Nat} (h : ExMem w s) (m : Mod NoBlock w w') : ExMem w' s :=
  ⟨h.gr.of_block (m.block _ h.gr.lt id), h.ct.of_block (m.block _ h.ct.lt id), h.m1.of_block (m.block _ h.m1.lt id), h.m2.of_block (m.block _ h.m2.lt id), h.ba.of_block (m.block _ h.ba.lt id)⟩
theorem ExMem.grs {w : World} {s : Nat} (h : ExMem w s) : Grs KAll w (some ⟨s, 0, none⟩) exG :=
  ⟨by decide, fun _ => ⟨s, 0, rfl, trivial, fun k hk => by
    obtain rfl : k = 0 := by have : k < 1 := hk; omega
    exact ⟨h.gr.cell (i := 0) (by decide), h.gr.cell (i := 1) (by decide)⟩⟩⟩
theorem ExMem.ctrs {w : World} {s : Nat} (h : ExMem w s) : Ctrs KAll w (some ⟨s + 1, 0, none⟩) exL :=
  ⟨by decide, fun _ => ⟨s + 1, 0, rfl, trivial, fun k hk => by
    have hk : k < 2 := hk
    rcases (by omega : k = 0 ∨ k = 1) with rfl | rfl
    · exact ⟨h.ct.cell (i := 0) (by decide), h.ct.cell (i := 1) (by decide), h.ct.cell (i := 2) (by decide), h.ct.cell (i := 3) (by decide), h.ct.cell (i := 4) (by decide), h.ct.cell (i := 5) (by decide), h.ct.cell (i := 6) (by decide)⟩
    · exact ⟨h.ct.cell (i := 7) (by decide), h.ct.cell (i := 8) (by decide), h.ct.cell (i := 9) (by decide), h.ct.cell (i := 10) (by decide), h.ct.cell (i := 11) (by decide), h.ct.cell (i := 12) (by decide), h.ct.cell (i := 13) (by decide)⟩⟩⟩
theorem ints_row1 {w : World} {s : Nat} {x : Int} (h : w.rowIs s 3 1 (fun i => (#[.int .i64 x] : Array Value).getD i undef)) : Ints KAll w (some ⟨s, 0, none⟩) [x] := by
  refine Ints.of_row (xs := [x]) h (by simp) (by simp [maxLen]) ?_ trivial
  intro k hk
  have hk : k < 1 := hk
  obtain rfl : k = 0 := by omega
  rfl
theorem ints_row2 {w : World} {s : Nat} {x y : Int} (h : w.rowIs s 3 2 (fun i => (#[.int .i64 x, .int .i64 y] : Array Value).getD i undef)) : Ints KAll w (some ⟨s, 0, none⟩) [x, y] := by
  refine Ints.of_row (xs := [x, y]) h (by simp) (by simp [maxLen]) ?_ trivial
  intro k hk
  have hk : k < 2 := hk
  rcases (by omega : k = 0 ∨ k = 1) with rfl | rfl <;> rfl
theorem ExMem.bals {w : World} {s : Nat} (h : ExMem w s) : Bals KAll w (some ⟨s + 1 + 1 + 1 + 1, 0, none⟩) exB :=
  ⟨by decide, fun _ => ⟨s + 1 + 1 + 1 + 1, 0, rfl, trivial, fun k hk => by
    have hk : k < 2 := hk
    rcases (by omega : k = 0 ∨ k = 1) with rfl | rfl
    · exact ⟨_, _, h.ba.cell (i := 0) (by decide), h.ba.cell (i := 1) (by decide), h.ba.cell (i := 2) (by decide), h.ba.cell (i := 3) (by decide), ints_row1 h.m1⟩
    · exact ⟨_, _, h.ba.cell (i := 4) (by decide), h.ba.cell (i := 5) (by decide), h.ba.cell (i := 6) (by decide), h.ba.cell (i := 7) (by decide), ints_row1 h.m2⟩⟩⟩
theorem exMem_at (w : World) : ExMem (((((w.alloc (.cells #[.int .i64 900, .int .i64 10] 51)).alloc (.cells #[.int .i64 1, .int .i64 0, .int .i64 0, .int .i64 1000, .int .i64 0, .int .i64 0, .int .i64 0, .int .i64 2, .int .i64 0, .int .i64 0, .int .i64 2000, .int .i64 0, .int .i64 0, .int .i64 0] 28)).alloc (.cells #[.int .i64 1500] 3)).alloc (.cells #[.int .i64 900] 3)).alloc (.cells #[.int .i64 1, .int .i64 0, .int .i64 0, .slice (some ⟨w.heap.size + 1 + 1, 0, none⟩) 1 1, .int .i64 2, .int .i64 0, .int .i64 0, .slice (some ⟨w.heap.size + 1 + 1 + 1, 0, none⟩) 1 1] 33)) w.heap.size := by
  have e1 : (w.alloc (.cells #[.int .i64 900, .int .i64 10] 51)).heap.size = w.heap.size + 1 := by simp
  have e2 : ((w.alloc (.cells #[.int .i64 900, .int .i64 10] 51)).alloc (.cells #[.int .i64 1, .int .i64 0, .int .i64 0, .int .i64 1000, .int .i64 0, .int .i64 0, .int .i64 0, .int .i64 2, .int .i64 0, .int .i64 0, .int .i64 2000, .int .i64 0, .int .i64 0, .int .i64 0] 28)).heap.size = w.heap.size + 1 + 1 := by simp
  have e3 : (((w.alloc (.cells #[.int .i64 900, .int .i64 10] 51)).alloc (.cells #[.int .i64 1, .int .i64 0, .int .i64 0, .int .i64 1000, .int .i64 0, .int .i64 0, .int .i64 0, .int .i64 2, .int .i64 0, .int .i64 0, .int .i64 2000, .int .i64 0, .int .i64 0, .int .i64 0] 28)).alloc (.cells #[.int .i64 1500] 3)).heap.size = w.heap.size + 1 + 1 + 1 := by simp
  have e4 : ((((w.alloc (.cells #[.int .i64 900, .int .i64 10] 51)).alloc (.cells #[.int .i64 1, .int .i64 0, .int .i64 0, .int .i64 1000, .int .i64 0, .int .i64 0, .int .i64 0, .int .i64 2, .int .i64 0, .int .i64 0, .int .i64 2000, .int .i64 0, .int .i64 0, .int .i64 0] 28)).alloc (.cells #[.int .i64 1500] 3)).alloc (.cells #[.int .i64 900] 3)).heap.size = w.heap.size + 1 + 1 + 1 + 1 := by simp
  have r1 := rowIs_new w #[.int .i64 900, .int .i64 10] 51
  have r2 := rowIs_new (w.alloc (.cells #[.int .i64 900, .int .i64 10] 51)) #[.int .i64 1, .int .i64 0, .int .i64 0, .int .i64 1000, .int .i64 0, .int .i64 0, .int .i64 0, .int .i64 2, .int .i64 0, .int .i64 0, .int .i64 2000, .int .i64 0, .int .i64 0, .int .i64 0] 28
  have r3 := rowIs_new ((w.alloc (.cells #[.int .i64 900, .int .i64 10] 51)).alloc (.cells #[.int .i64 1, .int .i64 0, .int .i64 0, .int .i64 1000, .int .i64 0, .int .i64 0, .int .i64 0, .int .i64 2, .int .i64 0, .int .i64 0, .int .i64 2000, .int .i64 0, .int .i64 0, .int .i64 0] 28)) #[.int .i64 1500] 3
  have r4 := rowIs_new (((w.alloc (.cells #[.int .i64 900, .int .i64 10] 51)).alloc (.cells #[.int .i64 1, .int .i64 0, .int .i64 0, .int .i64 1000, .int .i64 0, .int .i64 0, .int .i64 0, .int .i64 2, .int .i64 0, .int .i64 0, .int .i64 2000, .int .i64 0, .int .i64 0, .int .i64 0] 28)).alloc (.cells #[.int .i64 1500] 3)) #[.int .i64 900] 3
  have r5 := rowIs_new ((((w.alloc (.cells #[.int .i64 900, .int .i64 10] 51)).alloc (.cells #[.int .i64 1, .int .i64 0, .int .i64 0, .int .i64 1000, .int .i64 0, .int .i64 0, .int .i64 0, .int .i64 2, .int .i64 0, .int .i64 0, .int .i64 2000, .int .i64 0, .int .i64 0, .int .i64 0] 28)).alloc (.cells #[.int .i64 1500] 3)).alloc (.cells #[.int .i64 900] 3)) #[.int .i64 1, .int .i64 0, .int .i64 0, .slice (some ⟨w.heap.size + 1 + 1, 0, none⟩) 1 1, .int .i64 2, .int .i64 0, .int .i64 0, .slice (some ⟨w.heap.size + 1 + 1 + 1, 0, none⟩) 1 1] 33
  rw [e1] at r2
  rw [e2] at r3
  rw [e3] at r4
  rw [e4] at r5
  exact ⟨(((r1.alloc _).alloc _).alloc _).alloc _, ((r2.alloc _).alloc _).alloc _, (r3.alloc _).alloc _, r4.alloc _, r5⟩

def exA2 : Array Value := #[.int .i64 1, .int .i64 0, .int .i64 0, .int .i64 1000, .int .i64 0, .int .i64 0, .int .i64 0, .int .i64 2, .int .i64 0, .int .i64 0, .int .i64 2000, .int .i64 0, .int .i64 0, .int .i64 0]
def exA1 : Array Value := #[.int .i64 1, .int .i64 0, .int .i64 0, .int .i64 1000, .int .i64 0, .int .i64 0, .int .i64 0]
theorem exL3_at {w : World} {B : Nat} {v : Value} (h : w.ownsRow B 28 7 v 3 (exA2.toList ++ exA1.toList)) : ∃ a c, v = .slice a 3 c ∧ 3 ≤ c ∧ Ctrs KAll w a exL3 := by
  rcases h.2 with ⟨_, h1⟩ | ⟨g, cap, cur, rfl, _, _, hcap, _⟩
  · cases h1
  · refine ⟨_, cap, rfl, hcap, by decide, fun _ => ⟨g, 0, rfl, trivial, fun k hk => ?_⟩⟩
    have hc : ∀ (j : Nat) (u : Value), (exA2.toList ++ exA1.toList)[j]? = some u → w.cell? ⟨g, j, none⟩ = some u := fun j u hu => by
      have := h.cells rfl j u hu
      rwa [add_plain, Nat.zero_add] at this
    have hk : k < 3 := hk
    rcases (by omega : k = 0 ∨ k = 1 ∨ k = 2) with rfl | rfl | rfl
    · exact ⟨hc 0 _ rfl, hc 1 _ rfl, hc 2 _ rfl, hc 3 _ rfl, hc 4 _ rfl, hc 5 _ rfl, hc 6 _ rfl⟩
    · exact ⟨hc 7 _ rfl, hc 8 _ rfl, hc 9 _ rfl, hc 10 _ rfl, hc 11 _ rfl, hc 12 _ rfl, hc 13 _ rfl⟩
    · exact ⟨hc 14 _ rfl, hc 15 _ rfl, hc 16 _ rfl, hc 17 _ rfl, hc 18 _ rfl, hc 19 _ rfl, hc 20 _ rfl⟩

end Go.Proofs.Ytnacoglfhhenhaa

/-
  contract: the laws' own fixed example, walked.
-/
namespace Go.Proofs.Ytnacoglfhhenhaa
open Go.RowKit

set_option maxRecDepth 100000 in
set_option maxHeartbeats 6400000 in
theorem awakeK_any (w : World) : Calls Try.prog 10 #[] w fun e w' => e = .returned (.bool true) ∧ Mod NoBlock w w' := by
  have HX := Lib.hid (exMem_at w)
  have M := Lib.hid (((((Mod.refl NoBlock w).alloc (.cells #[.int .i64 900, .int .i64 10] 51)).alloc (.cells #[.int .i64 1, .int .i64 0, .int .i64 0, .int .i64 1000, .int .i64 0, .int .i64 0, .int .i64 0, .int .i64 2, .int .i64 0, .int .i64 0, .int .i64 2000, .int .i64 0, .int .i64 0, .int .i64 0] 28)).alloc (.cells #[.int .i64 1500] 3)).alloc (.cells #[.int .i64 900] 3) |>.alloc (.cells #[.int .i64 1, .int .i64 0, .int .i64 0, .slice (some ⟨w.heap.size + 1 + 1, 0, none⟩) 1 1, .int .i64 2, .int .i64 0, .int .i64 0, .slice (some ⟨w.heap.size + 1 + 1 + 1, 0, none⟩) 1 1] 33))
  go_enter Try.func10, Try.ntmps10
  go_upto_region 4 with fail
  generalize (((((w.alloc (.cells #[.int .i64 900, .int .i64 10] 51)).alloc (.cells #[.int .i64 1, .int .i64 0, .int .i64 0, .int .i64 1000, .int .i64 0, .int .i64 0, .int .i64 0, .int .i64 2, .int .i64 0, .int .i64 0, .int .i64 2000, .int .i64 0, .int .i64 0, .int .i64 0] 28)).alloc (.cells #[.int .i64 1500] 3)).alloc (.cells #[.int .i64 900] 3)).alloc (.cells #[.int .i64 1, .int .i64 0, .int .i64 0, .slice (some ⟨w.heap.size + 1 + 1, 0, none⟩) 1 1, .int .i64 2, .int .i64 0, .int .i64 0, .slice (some ⟨w.heap.size + 1 + 1 + 1, 0, none⟩) 1 1] 33)) = w4 at HX M ⊢
  generalize w.heap.size = s at HX ⊢
  have Ha := Lib.hid (assign_any (c := 2) (cG := 1) (cB := 2) HX.out.ctrs (by decide) HX.out.grs HX.out.bals (by decide))
  go_upto_region 5 with (go_at_call 16; refine Ha.out.mono ?_; rintro e w5 ⟨aC, cC, cols, t, rfl, m, hC, hI⟩)
  obtain ⟨rfl, rfl⟩ := ex_asg hI
  have m6 := m.alloc (.cells #[.int .i64 1, .int .i64 0, .int .i64 0, .int .i64 20000, .int .i64 1000, .int .i64 50000, .int .i64 8000] 28)
  have BC := Lib.hid (rowIs_new w5 #[.int .i64 1, .int .i64 0, .int .i64 0, .int .i64 20000, .int .i64 1000, .int .i64 50000, .int .i64 8000] 28)
  have HC := Lib.hid (hC.alloc (.cells #[.int .i64 1, .int .i64 0, .int .i64 0, .int .i64 20000, .int .i64 1000, .int .i64 50000, .int .i64 8000] 28))
  replace HX := Lib.hid (HX.out.frame m6)
  replace M := Lib.hid (M.out.trans m6)
  rw [ex_err]
  clear hI hC m m6 Ha
  go_upto_region 6 with fail
  generalize w5.alloc (.cells #[.int .i64 1, .int .i64 0, .int .i64 0, .int .i64 20000, .int .i64 1000, .int .i64 50000, .int .i64 8000] 28) = w6 at BC HC HX M ⊢
  generalize w5.heap.size = gc at BC ⊢
  have Hs1 := Lib.hid fun w' => (show Calls Try.prog 21 #[.agg #[.int .i64 1, .int .i64 0, .int .i64 0, .int .i64 20000, .int .i64 1000, .int .i64 50000, .int .i64 8000], .int .i64 18500] w' fun e w'' => e = .returned (.tuple #[.int .i64 921, .int .i64 0]) ∧ Mod NoBlock w' w'' by
    have := settle_any exC 18500 w'
    rwa [ex_set1] at this)
  have Hs2 := Lib.hid fun w' => (show Calls Try.prog 21 #[.agg #[.int .i64 1, .int .i64 0, .int .i64 0, .int .i64 20000, .int .i64 1000, .int .i64 50000, .int .i64 8000], .int .i64 30000] w' fun e w'' => e = .returned (.tuple #[.int .i64 1050, .int .i64 0]) ∧ Mod NoBlock w' w'' by
    have := settle_any exC 30000 w'
    rwa [ex_set2] at this)
  have Hs3 := Lib.hid fun w' => (show Calls Try.prog 19 #[.agg #[.int .i64 1, .int .i64 0, .int .i64 0, .int .i64 20000, .int .i64 1000, .int .i64 50000, .int .i64 8000], .int .i64 18500] w' fun e w'' => e = .returned (.tuple #[.int .i64 500, .int .i64 0]) ∧ Mod NoBlock w' w'' by
    have := mis_any exC 18500 w'
    rwa [ex_mis] at this)
  have c0 : w6.cell? ⟨gc, 0, none⟩ = some (.int .i64 1) := BC.out.cell (i := 0) (by decide)
  have c1 : w6.cell? ⟨gc, 1, none⟩ = some (.int .i64 0) := BC.out.cell (i := 1) (by decide)
  have c2 : w6.cell? ⟨gc, 2, none⟩ = some (.int .i64 0) := BC.out.cell (i := 2) (by decide)
  have c3 : w6.cell? ⟨gc, 3, none⟩ = some (.int .i64 20000) := BC.out.cell (i := 3) (by decide)
  have c4 : w6.cell? ⟨gc, 4, none⟩ = some (.int .i64 1000) := BC.out.cell (i := 4) (by decide)
  have c5 : w6.cell? ⟨gc, 5, none⟩ = some (.int .i64 50000) := BC.out.cell (i := 5) (by decide)
  have c6 : w6.cell? ⟨gc, 6, none⟩ = some (.int .i64 8000) := BC.out.cell (i := 6) (by decide)
  go_upto_region 7 with (go_at_call 21; refine (Hs1.out _).mono ?_; rintro e w7 ⟨rfl, m⟩)
  replace HX := Lib.hid (HX.out.frame m)
  replace HC := Lib.hid (HC.out.frame m)
  replace M := Lib.hid (M.out.trans m)
  replace BC := Lib.hid (BC.out.of_block (m.block _ BC.out.lt id))
  clear m Hs1 c0 c1 c2 c3 c4 c5 c6
  have c0 : w7.cell? ⟨gc, 0, none⟩ = some (.int .i64 1) := BC.out.cell (i := 0) (by decide)
  have c1 : w7.cell? ⟨gc, 1, none⟩ = some (.int .i64 0) := BC.out.cell (i := 1) (by decide)
  have c2 : w7.cell? ⟨gc, 2, none⟩ = some (.int .i64 0) := BC.out.cell (i := 2) (by decide)
  have c3 : w7.cell? ⟨gc, 3, none⟩ = some (.int .i64 20000) := BC.out.cell (i := 3) (by decide)
  have c4 : w7.cell? ⟨gc, 4, none⟩ = some (.int .i64 1000) := BC.out.cell (i := 4) (by decide)
  have c5 : w7.cell? ⟨gc, 5, none⟩ = some (.int .i64 50000) := BC.out.cell (i := 5) (by decide)
  have c6 : w7.cell? ⟨gc, 6, none⟩ = some (.int .i64 8000) := BC.out.cell (i := 6) (by decide)
  go_upto_region 8 with (go_at_call 21; refine (Hs2.out _).mono ?_; rintro e w8 ⟨rfl, m⟩)
  replace HX := Lib.hid (HX.out.frame m)
  replace HC := Lib.hid (HC.out.frame m)
  replace M := Lib.hid (M.out.trans m)
  replace BC := Lib.hid (BC.out.of_block (m.block _ BC.out.lt id))
  clear m Hs2 c0 c1 c2 c3 c4 c5 c6
  have c0 : w8.cell? ⟨gc, 0, none⟩ = some (.int .i64 1) := BC.out.cell (i := 0) (by decide)
  have c1 : w8.cell? ⟨gc, 1, none⟩ = some (.int .i64 0) := BC.out.cell (i := 1) (by decide)
  have c2 : w8.cell? ⟨gc, 2, none⟩ = some (.int .i64 0) := BC.out.cell (i := 2) (by decide)
  have c3 : w8.cell? ⟨gc, 3, none⟩ = some (.int .i64 20000) := BC.out.cell (i := 3) (by decide)
  have c4 : w8.cell? ⟨gc, 4, none⟩ = some (.int .i64 1000) := BC.out.cell (i := 4) (by decide)
  have c5 : w8.cell? ⟨gc, 5, none⟩ = some (.int .i64 50000) := BC.out.cell (i := 5) (by decide)
  have c6 : w8.cell? ⟨gc, 6, none⟩ = some (.int .i64 8000) := BC.out.cell (i := 6) (by decide)
  go_upto_region 9 with (go_at_call 19; refine (Hs3.out _).mono ?_; rintro e w9 ⟨rfl, m⟩)
  replace HX := Lib.hid (HX.out.frame m)
  replace HC := Lib.hid (HC.out.frame m)
  replace M := Lib.hid (M.out.trans m)
  replace BC := Lib.hid (BC.out.of_block (m.block _ BC.out.lt id))
  clear m Hs3 c0 c1 c2 c3 c4 c5 c6
  have HI := Lib.hid (show Calls Try.prog 18 #[.slice aC 2 cC, .slice (some ⟨w9.heap.size, 0, none⟩) 2 2] ((w9.alloc (.cells #[.int .i64 1, .int .i64 0] 3)).drew) fun e w' => e = .returned (.bool true) ∧ Drawn ((w9.alloc (.cells #[.int .i64 1, .int .i64 0] 3)).drew) w' by
    have := ints52_any aC (some ⟨w9.heap.size, 0, none⟩) cC 2 [1, 0] [1, 0] _ KAll ((w9.alloc (.cells #[.int .i64 1, .int .i64 0] 3)).drew) (HC.out.alloc _) (ints_row2 (rowIs_new w9 #[.int .i64 1, .int .i64 0] 3))
    rwa [decide_eq_true (rfl : ([1, 0] : List Int) = [1, 0])] at this)
  clear BC HC
  have t0 : w9.cell? ⟨s + 1, 0, none⟩ = some (.int .i64 1) := HX.out.ct.cell (i := 0) (by decide)
  have t1 : w9.cell? ⟨s + 1, 1, none⟩ = some (.int .i64 0) := HX.out.ct.cell (i := 1) (by decide)
  have t2 : w9.cell? ⟨s + 1, 2, none⟩ = some (.int .i64 0) := HX.out.ct.cell (i := 2) (by decide)
  have t3 : w9.cell? ⟨s + 1, 3, none⟩ = some (.int .i64 1000) := HX.out.ct.cell (i := 3) (by decide)
  have t4 : w9.cell? ⟨s + 1, 4, none⟩ = some (.int .i64 0) := HX.out.ct.cell (i := 4) (by decide)
  have t5 : w9.cell? ⟨s + 1, 5, none⟩ = some (.int .i64 0) := HX.out.ct.cell (i := 5) (by decide)
  have t6 : w9.cell? ⟨s + 1, 6, none⟩ = some (.int .i64 0) := HX.out.ct.cell (i := 6) (by decide)
  have t7 : w9.cell? ⟨s + 1 + 1 + 1 + 1, 0, none⟩ = some (.int .i64 1) := HX.out.ba.cell (i := 0) (by decide)
  have t8 : w9.cell? ⟨s + 1 + 1 + 1 + 1, 1, none⟩ = some (.int .i64 0) := HX.out.ba.cell (i := 1) (by decide)
  have t9 : w9.cell? ⟨s + 1 + 1 + 1 + 1, 2, none⟩ = some (.int .i64 0) := HX.out.ba.cell (i := 2) (by decide)
  have t10 : w9.cell? ⟨s + 1 + 1 + 1 + 1, 3, none⟩ = some (.slice (some ⟨s + 1 + 1, 0, none⟩) 1 1) := HX.out.ba.cell (i := 3) (by decide)
  go_region_held3 (fun w' => w'.cell? ⟨s + 1, 0, none⟩ = some (.int .i64 1) ∧ w'.cell? ⟨s + 1, 1, none⟩ = some (.int .i64 0) ∧ w'.cell? ⟨s + 1, 2, none⟩ = some (.int .i64 0) ∧ w'.cell? ⟨s + 1, 3, none⟩ = some (.int .i64 1000) ∧ w'.cell? ⟨s + 1, 4, none⟩ = some (.int .i64 0) ∧ w'.cell? ⟨s + 1, 5, none⟩ = some (.int .i64 0) ∧ w'.cell? ⟨s + 1, 6, none⟩ = some (.int .i64 0) ∧ w'.cell? ⟨s + 1 + 1 + 1 + 1, 0, none⟩ = some (.int .i64 1) ∧ w'.cell? ⟨s + 1 + 1 + 1 + 1, 1, none⟩ = some (.int .i64 0) ∧ w'.cell? ⟨s + 1 + 1 + 1 + 1, 2, none⟩ = some (.int .i64 0) ∧ w'.cell? ⟨s + 1 + 1 + 1 + 1, 3, none⟩ = some (.slice (some ⟨s + 1 + 1, 0, none⟩) 1 1))
    (first
      | exact ⟨t0, t1, t2, t3, t4, t5, t6, t7, t8, t9, t10⟩
      | go_keep)
    (first
      | (go_at_call 18; refine HI.out.mono ?_; rintro e w10 ⟨rfl, hd⟩
         have m10 := (((Mod.refl NoBlock w9).alloc (.cells #[.int .i64 1, .int .i64 0] 3)).drew).drawn hd
         have HX10 := Lib.hid (HX.out.frame m10)
         have M10 := Lib.hid (M.out.trans m10)
         have Hf := Lib.hid (fits_any ⟨1, 0, 0, 1000, 0, 0, 0⟩ ⟨1, 0, 0, [1500]⟩ (c := 1) (c2 := 1) HX10.out.grs (ints_row1 HX10.out.m1))
         rw [ex_fit] at Hf
         clear t0 t1 t2 t3 t4 t5 t6 t7 t8 t9 t10
         have t0 : w10.cell? ⟨s + 1, 0, none⟩ = some (.int .i64 1) := HX10.out.ct.cell (i := 0) (by decide)
         have t1 : w10.cell? ⟨s + 1, 1, none⟩ = some (.int .i64 0) := HX10.out.ct.cell (i := 1) (by decide)
         have t2 : w10.cell? ⟨s + 1, 2, none⟩ = some (.int .i64 0) := HX10.out.ct.cell (i := 2) (by decide)
         have t3 : w10.cell? ⟨s + 1, 3, none⟩ = some (.int .i64 1000) := HX10.out.ct.cell (i := 3) (by decide)
         have t4 : w10.cell? ⟨s + 1, 4, none⟩ = some (.int .i64 0) := HX10.out.ct.cell (i := 4) (by decide)
         have t5 : w10.cell? ⟨s + 1, 5, none⟩ = some (.int .i64 0) := HX10.out.ct.cell (i := 5) (by decide)
         have t6 : w10.cell? ⟨s + 1, 6, none⟩ = some (.int .i64 0) := HX10.out.ct.cell (i := 6) (by decide)
         have t7 : w10.cell? ⟨s + 1 + 1 + 1 + 1, 0, none⟩ = some (.int .i64 1) := HX10.out.ba.cell (i := 0) (by decide)
         have t8 : w10.cell? ⟨s + 1 + 1 + 1 + 1, 1, none⟩ = some (.int .i64 0) := HX10.out.ba.cell (i := 1) (by decide)
         have t9 : w10.cell? ⟨s + 1 + 1 + 1 + 1, 2, none⟩ = some (.int .i64 0) := HX10.out.ba.cell (i := 2) (by decide)
         have t10 : w10.cell? ⟨s + 1 + 1 + 1 + 1, 3, none⟩ = some (.slice (some ⟨s + 1 + 1, 0, none⟩) 1 1) := HX10.out.ba.cell (i := 3) (by decide)
         clear m10 hd)
      | (go_at_call 14; refine Hf.out.mono ?_; rintro e w11 ⟨rfl, m11⟩
         have HX11 := Lib.hid (HX10.out.frame m11)
         have M11 := Lib.hid (M10.out.trans m11)
         clear t0 t1 t2 t3 t4 t5 t6 t7 t8 t9 t10
         have t0 : w11.cell? ⟨s + 1, 0, none⟩ = some (.int .i64 1) := HX11.out.ct.cell (i := 0) (by decide)
         have t1 : w11.cell? ⟨s + 1, 1, none⟩ = some (.int .i64 0) := HX11.out.ct.cell (i := 1) (by decide)
         have t2 : w11.cell? ⟨s + 1, 2, none⟩ = some (.int .i64 0) := HX11.out.ct.cell (i := 2) (by decide)
         have t3 : w11.cell? ⟨s + 1, 3, none⟩ = some (.int .i64 1000) := HX11.out.ct.cell (i := 3) (by decide)
         have t4 : w11.cell? ⟨s + 1, 4, none⟩ = some (.int .i64 0) := HX11.out.ct.cell (i := 4) (by decide)
         have t5 : w11.cell? ⟨s + 1, 5, none⟩ = some (.int .i64 0) := HX11.out.ct.cell (i := 5) (by decide)
         have t6 : w11.cell? ⟨s + 1, 6, none⟩ = some (.int .i64 0) := HX11.out.ct.cell (i := 6) (by decide)
         have t7 : w11.cell? ⟨s + 1 + 1 + 1 + 1, 0, none⟩ = some (.int .i64 1) := HX11.out.ba.cell (i := 0) (by decide)
         have t8 : w11.cell? ⟨s + 1 + 1 + 1 + 1, 1, none⟩ = some (.int .i64 0) := HX11.out.ba.cell (i := 1) (by decide)
         have t9 : w11.cell? ⟨s + 1 + 1 + 1 + 1, 2, none⟩ = some (.int .i64 0) := HX11.out.ba.cell (i := 2) (by decide)
         have t10 : w11.cell? ⟨s + 1 + 1 + 1 + 1, 3, none⟩ = some (.slice (some ⟨s + 1 + 1, 0, none⟩) 1 1) := HX11.out.ba.cell (i := 3) (by decide)
         clear m11)
      | (refine step_append_guarded (by rfl) _ _ 22 rfl 28 _ _ 7 56 Try.underlying22 rfl rfl rfl rfl rfl (by decide) ⟨s + 1, 0, none⟩ 2 2 exA2.toList rfl rfl (row_cells ((HX11.out.frame ((Mod.refl NoBlock w11).alloc (.cells exA1 28))).ct) (by decide)) ⟨w11.heap.size, 0, none⟩ 1 1 exA1.toList rfl rfl (row_cells (rowIs_new w11 exA1 28) (by decide)) (by decide) (by decide) (by decide) (by decide) ?_; intro v' w12 hown hgr
         obtain ⟨a3, c3, rfl, hc3, hct⟩ := exL3_at hown
         have m12 := ((Mod.refl NoBlock w11).alloc (.cells exA1 28)).grown hgr (fun k e => by cases e)
         have M12 := Lib.hid (M11.out.trans m12)
         have HX12 := Lib.hid (HX11.out.frame m12)
         have Hk := Lib.hid (check52_any (n := 1) hct hc3)
         clear t0 t1 t2 t3 t4 t5 t6 t7 t8 t9 t10
         have t0 : w12.cell? ⟨s + 1, 0, none⟩ = some (.int .i64 1) := HX12.out.ct.cell (i := 0) (by decide)
         have t1 : w12.cell? ⟨s + 1, 1, none⟩ = some (.int .i64 0) := HX12.out.ct.cell (i := 1) (by decide)
         have t2 : w12.cell? ⟨s + 1, 2, none⟩ = some (.int .i64 0) := HX12.out.ct.cell (i := 2) (by decide)
         have t3 : w12.cell? ⟨s + 1, 3, none⟩ = some (.int .i64 1000) := HX12.out.ct.cell (i := 3) (by decide)
         have t4 : w12.cell? ⟨s + 1, 4, none⟩ = some (.int .i64 0) := HX12.out.ct.cell (i := 4) (by decide)
         have t5 : w12.cell? ⟨s + 1, 5, none⟩ = some (.int .i64 0) := HX12.out.ct.cell (i := 5) (by decide)
         have t6 : w12.cell? ⟨s + 1, 6, none⟩ = some (.int .i64 0) := HX12.out.ct.cell (i := 6) (by decide)
         have t7 : w12.cell? ⟨s + 1 + 1 + 1 + 1, 0, none⟩ = some (.int .i64 1) := HX12.out.ba.cell (i := 0) (by decide)
         have t8 : w12.cell? ⟨s + 1 + 1 + 1 + 1, 1, none⟩ = some (.int .i64 0) := HX12.out.ba.cell (i := 1) (by decide)
         have t9 : w12.cell? ⟨s + 1 + 1 + 1 + 1, 2, none⟩ = some (.int .i64 0) := HX12.out.ba.cell (i := 2) (by decide)
         have t10 : w12.cell? ⟨s + 1 + 1 + 1 + 1, 3, none⟩ = some (.slice (some ⟨s + 1 + 1, 0, none⟩) 1 1) := HX12.out.ba.cell (i := 3) (by decide)
         clear hown hgr hc3 hct m12)
      | (go_at_call 11; refine Hk.out.mono ?_; rintro e w13 ⟨rfl, m13⟩; rw [ex_dup]
         have HX13 := Lib.hid (HX12.out.frame m13)
         have M13 := Lib.hid (M12.out.trans m13)
         clear t0 t1 t2 t3 t4 t5 t6 t7 t8 t9 t10
         have t0 : w13.cell? ⟨s + 1, 0, none⟩ = some (.int .i64 1) := HX13.out.ct.cell (i := 0) (by decide)
         have t1 : w13.cell? ⟨s + 1, 1, none⟩ = some (.int .i64 0) := HX13.out.ct.cell (i := 1) (by decide)
         have t2 : w13.cell? ⟨s + 1, 2, none⟩ = some (.int .i64 0) := HX13.out.ct.cell (i := 2) (by decide)
         have t3 : w13.cell? ⟨s + 1, 3, none⟩ = some (.int .i64 1000) := HX13.out.ct.cell (i := 3) (by decide)
         have t4 : w13.cell? ⟨s + 1, 4, none⟩ = some (.int .i64 0) := HX13.out.ct.cell (i := 4) (by decide)
         have t5 : w13.cell? ⟨s + 1, 5, none⟩ = some (.int .i64 0) := HX13.out.ct.cell (i := 5) (by decide)
         have t6 : w13.cell? ⟨s + 1, 6, none⟩ = some (.int .i64 0) := HX13.out.ct.cell (i := 6) (by decide)
         have t7 : w13.cell? ⟨s + 1 + 1 + 1 + 1, 0, none⟩ = some (.int .i64 1) := HX13.out.ba.cell (i := 0) (by decide)
         have t8 : w13.cell? ⟨s + 1 + 1 + 1 + 1, 1, none⟩ = some (.int .i64 0) := HX13.out.ba.cell (i := 1) (by decide)
         have t9 : w13.cell? ⟨s + 1 + 1 + 1 + 1, 2, none⟩ = some (.int .i64 0) := HX13.out.ba.cell (i := 2) (by decide)
         have t10 : w13.cell? ⟨s + 1 + 1 + 1 + 1, 3, none⟩ = some (.slice (some ⟨s + 1 + 1, 0, none⟩) 1 1) := HX13.out.ba.cell (i := 3) (by decide)))
  all_goals (go_wp2_with fail; go_ret; exact ⟨rfl, M13.out⟩)

end Go.Proofs.Ytnacoglfhhenhaa

/-
  contract: few.
-/
namespace Go.Proofs.Ytnacoglfhhenhaa
open Go.RowKit

def Few (l : List Ctr) (g : List (Int × Int)) (bs : List Bal) : Prop := l.length ≤ 20 ∧ g.length ≤ 20 ∧ bs.length ≤ 30 ∧ ∀ k, k < bs.length → (bx bs k).mix.length ≤ 20
def FewIs (P : Prop) (w : World) (e : Ending) (w' : World) : Prop := ∃ r : Bool, e = .returned (.bool r) ∧ (r = true ↔ P) ∧ Mod NoBlock w w'
theorem FewIs.no {P : Prop} {w w' : World} (h : ¬ P) (m : Mod NoBlock w w') : FewIs P w (.returned (.bool false)) w' := ⟨false, rfl, ⟨fun h => (by cases h), fun hp => absurd hp h⟩, m⟩
theorem FewIs.yes {P : Prop} {w w' : World} (h : P) (m : Mod NoBlock w w') : FewIs P w (.returned (.bool true)) w' := ⟨true, rfl, ⟨fun _ => h, fun _ => rfl⟩, m⟩

set_option maxRecDepth 100000 in
set_option maxHeartbeats 3200000 in
theorem few_any {F : Nat → Prop} {w : World} {a aG aB : Option Addr} {c cG cB : Nat} {l : List Ctr} {g : List (Int × Int)} {bs : List Bal} (ll : l.length ≤ maxLen) (lg : g.length ≤ maxLen) (hb : Bals F w aB bs) :
    Calls Try.prog 13 #[.slice a l.length c, .slice aG g.length cG, .slice aB bs.length cB] w (FewIs (Few l g bs) w) := by
  obtain ⟨lb, bB, oB, haB, hcB⟩ := hb.open
  have HaB := Lib.hid haB
  have HcB := Lib.hid hcB
  simp only [maxLen] at ll lg
  clear haB hcB hb
  by_cases h1 : 20 < (l.length : Int)
  · have Hn : Hid (¬ Few l g bs) := Lib.hid fun h => by have := h.1; omega
    go_enter Try.func13, Try.ntmps13
    go_wp2_with fail
    go_ret
    exact FewIs.no Hn.out (Mod.refl _ _)
  by_cases h2 : 20 < (g.length : Int)
  · have Hn : Hid (¬ Few l g bs) := Lib.hid fun h => by have := h.2.1; omega
    go_enter Try.func13, Try.ntmps13
    go_wp2_with fail
    go_ret
    exact FewIs.no Hn.out (Mod.refl _ _)
  by_cases h3 : 30 < (bs.length : Int)
  · have Hn : Hid (¬ Few l g bs) := Lib.hid fun h => by have := h.2.2.1; omega
    go_enter Try.func13, Try.ntmps13
    go_wp2_with fail
    go_ret
    exact FewIs.no Hn.out (Mod.refl _ _)
  have Hb := Lib.hid (show l.length ≤ 20 ∧ g.length ≤ 20 ∧ bs.length ≤ 30 by omega)
  go_enter Try.func13, Try.ntmps13
  go_wp2_with fail
  go_loopw [24] (fun i wr => ∃ q : Nat, q ≤ bs.length ∧ i = .int .i64 q ∧ (∀ i, i < q → (bx bs i).mix.length ≤ 20) ∧ Mod NoBlock w wr) (fun i _ => bs.length - (intOf i).toNat)
  case atStart => exact ⟨0, by omega, rfl, fun i hi => absurd hi (Nat.not_lt_zero i), Mod.refl _ _⟩
  case round =>
    obtain ⟨q, hq, rfl, hok, hm⟩ := hrel
    have HO := Lib.hid hok
    have M := Lib.hid hm
    clear hok hm
    obtain ⟨wo, rfl⟩ : ∃ wo : World, wo = wr := ⟨_, rfl⟩
    by_cases hlt : q < bs.length
    · have q1 : (q : Int) < (bs.length : Int) := by omega
      obtain rfl := HaB.out (by intro e; rw [e] at hlt; simp at hlt)
      obtain ⟨a', c', k0, k1, k2, k3, hmx⟩ := (HcB.out q hlt).frame M.out
      have lm : (bx bs q).mix.length ≤ maxLen := hmx.1
      simp only [maxLen] at lm
      obtain ⟨y, hy⟩ : ∃ y, bx bs q = y := ⟨_, rfl⟩
      rw [hy] at k0 k1 k2 k3 lm
      have Hy := Lib.hid hy
      have M2 := Lib.hid (M.out.alloc (.cells #[.int .i64 y.id, .int .i64 y.mat, .int .i64 y.tm, .slice a' y.mix.length c'] 33))
      clear hy hmx
      by_cases h4 : 20 < (y.mix.length : Int)
      · have Hn : Hid (¬ Few l g bs) := Lib.hid fun h => by have := h.2.2.2 q hlt; rw [Hy.out] at this; omega
        go_wp2_with fail
        go_ret
        exact FewIs.no Hn.out M2.out
      · have H4 := Lib.hid h4
        go_wp2_with fail
        exact ⟨⟨q + 1, by omega, by go_num, fun i hi => by
          by_cases e : i = q
          · rw [e, Hy.out]; have := H4.out; omega
          · exact HO.out i (by omega), M2.out⟩, by simp [intOf]; omega⟩
    · have Hy : Hid (Few l g bs) := Lib.hid ⟨Hb.out.1, Hb.out.2.1, Hb.out.2.2, fun i hi => HO.out i (by omega)⟩
      go_wp2_with fail
      go_ret
      exact FewIs.yes Hy.out M.out

end Go.Proofs.Ytnacoglfhhenhaa
