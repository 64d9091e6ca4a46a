/-
  match: the laws' own fixed example.
-/
import Derived.Test.YtddjkmaigifomaaMf
import Derived.Test.YtddjkmaigifomaaMj
set_option linter.unusedVariables false
set_option linter.unusedSimpArgs false
namespace Go.Proofs.Ytddjkmaigifomaa
open Go.RowKit

theorem take_eq_step {xs ys : List Int} {k : Nat} (hx : k < xs.length) (hy : k < ys.length) (h : xs.take k = ys.take k) (e : ix xs k = ix ys k) :
    xs.take (k + 1) = ys.take (k + 1) := by
  rw [List.take_succ_eq_append_getElem hx, List.take_succ_eq_append_getElem hy, h]
  simp only [ix_eq hx, ix_eq hy] at e
  rw [e]
set_option maxHeartbeats 400000 in
theorem rsame10_any (a1 a2 : Option Addr) (c1 c2 : Nat) (xs ys : List Int) (D1 D2 : Nat → Prop) (w : World) (hx : Ints D1 w a1 xs) (hy : Ints D2 w a2 ys) :
    Calls Try.prog 16 #[.slice a1 xs.length c1, .slice a2 ys.length c2] w fun e w' => e = .returned (.bool (decide (xs = ys))) ∧ Drawn w w' := by
  obtain ⟨lx, b1, o1, hb1, hc1⟩ := hx.open
  obtain ⟨ly, b2, o2, hb2, hc2⟩ := hy.open
  clear hx hy
  by_cases hl : xs.length = ys.length
  · have hl1 : xs.length ≤ ys.length := by omega
    have hl2 : ys.length ≤ xs.length := by omega
    have hl' := Lib.hid hl
    clear hl
    go_enter Try.func16, Try.ntmps16
    go_wp2
    go_loopw [5] (fun i wr => ∃ k : Nat, k ≤ xs.length ∧ i = .int .i64 k ∧ xs.take k = ys.take k ∧ ∃ n, wr = w.drewN n) (fun i _ => xs.length - (intOf i).toNat)
    case atStart => exact ⟨0, by omega, rfl, rfl, 0, rfl⟩
    case round =>
      obtain ⟨k, hk, rfl, ht, n, rfl⟩ := hrel
      have ht' := Lib.hid ht
      clear ht
      by_cases hlt : k < xs.length
      · have h1 := hc1 k hlt
        have h2 := hc2 k (by omega)
        obtain rfl := hb1 (by intro h; simp [h] at hlt)
        obtain rfl := hb2 (by intro h; rw [h] at hl1; simp at hl1; simp [hl1] at hlt)
        clear hb1 hb2 hc1 hc2
        by_cases he : ix xs k = ix ys k
        · have hd : (ix xs k != ix ys k) = false := by simpa using he
          have he' := Lib.hid he
          clear he
          go_wp2
          go_quiet (fail)
          go_wp2
          exact ⟨⟨k + 1, by omega, by go_num, take_eq_step hlt (by omega) ht'.out he'.out, _, rfl⟩, by simp [intOf]; omega⟩
        · have hd : (ix xs k != ix ys k) = true := by simpa using he
          have he' := Lib.hid he
          clear he
          go_wp2
          go_quiet (fail)
          go_wp2
          go_ret
          refine ⟨ret_bool ?_, (Drawn.mk _ _).trans (Drawn.mk _ _)⟩
          exact (decide_eq_false fun h => he'.out (by rw [h])).symm
      · go_wp2
        go_ret
        refine ⟨ret_bool ?_, Drawn.mk _ _⟩
        have hk' : k = xs.length := by omega
        rw [hk'] at ht'
        have h3 := ht'.out
        rw [List.take_of_length_le (by omega), List.take_of_length_le (by omega)] at h3
        exact (decide_eq_true h3).symm
  · go_enter Try.func16, Try.ntmps16
    go_wp2
    go_ret
    exact ⟨ret_bool (decide_eq_false fun h => hl (by rw [h])).symm, Drawn.refl _⟩

/-- The two examples. -/
theorem ex1 {t : Int} {wf : Nat → Nat} (h : First (tabM [[4, 1], [2, 9]] [10, 10] 2) 2 2 t wf) : t = 3 ∧ rowI 2 (colZ 2 wf) = [1, 0] := by
  have h0 := h.asg.lt 0 (by omega)
  have h1 := h.asg.lt 1 (by omega)
  have hne : wf 0 ≠ wf 1 := fun e => by have := h.asg.inj 0 1 (by omega) (by omega) e; omega
  have hc := h.cost
  have hl := h.least (fun r => if r = 0 then 1 else 0) ⟨fun r hr => by show (if r = 0 then 1 else 0) < 4; split <;> omega, fun r r' hr hr' e => by
    rcases (by omega : r = 0 ∨ r = 1) with rfl | rfl <;> rcases (by omega : r' = 0 ∨ r' = 1) with rfl | rfl <;> simp at e ⊢⟩
  have e3 : cost (tabM [[4, 1], [2, 9]] [10, 10] 2) 2 (fun r => if r = 0 then 1 else 0) = 3 := by decide
  rw [e3] at hl
  have ec : cost (tabM [[4, 1], [2, 9]] [10, 10] 2) 2 wf = tabM [[4, 1], [2, 9]] [10, 10] 2 0 (wf 0) + tabM [[4, 1], [2, 9]] [10, 10] 2 1 (wf 1) := by
    simp [cost, sumR]
  rw [ec] at hc
  have key : ∀ a, a < 4 → ∀ b, b < 4 → a ≠ b → tabM [[4, 1], [2, 9]] [10, 10] 2 0 a + tabM [[4, 1], [2, 9]] [10, 10] 2 1 b ≤ 3 → a = 1 ∧ b = 0 := by decide
  obtain ⟨e0, e1⟩ := key (wf 0) h0 (wf 1) h1 hne (by omega)
  rw [e0, e1] at hc
  refine ⟨by rw [← hc]; decide, ?_⟩
  show [colZ 2 wf 0, colZ 2 wf 1] = [1, 0]
  unfold colZ
  rw [e0, e1]
  rfl
theorem ex2 {t : Int} {wf : Nat → Nat} (h : First (tabM [[5]] [3] 1) 1 1 t wf) : t = 3 ∧ rowI 1 (colZ 1 wf) = [-1] := by
  have h0 := h.asg.lt 0 (by omega)
  have hc := h.cost
  have hl := h.least (fun _ => 1) ⟨fun r hr => by show 1 < 2; omega, fun r r' hr hr' _ => by omega⟩
  have e3 : cost (tabM [[5]] [3] 1) 1 (fun _ => 1) = 3 := by decide
  rw [e3] at hl
  have ec : cost (tabM [[5]] [3] 1) 1 wf = tabM [[5]] [3] 1 0 (wf 0) := by
    simp [cost, sumR]
  rw [ec] at hc
  have key : ∀ a, a < 2 → tabM [[5]] [3] 1 0 a ≤ 3 → a = 1 := by decide
  have e0 := key (wf 0) h0 (by omega)
  rw [e0] at hc
  refine ⟨by rw [← hc]; decide, ?_⟩
  show [colZ 1 wf 0] = [-1]
  unfold colZ
  rw [e0]
  rfl

def MAll : Nat → Prop := fun _ => True
theorem exM_at (w : World) (x y z u : Int) :
    Mixes MAll (((w.alloc (.cells #[.int .i64 x, .int .i64 y] 3)).alloc (.cells #[.int .i64 z, .int .i64 u] 3)).alloc (.cells #[.slice (some ⟨w.heap.size, 0, none⟩) 2 2, .slice (some ⟨w.heap.size + 1, 0, none⟩) 2 2] 23)) (some ⟨w.heap.size + 1 + 1, 0, none⟩) [[x, y], [z, u]] := by
  have h1 := (Ints.pair MAll w x y 3 trivial).alloc (.cells #[.int .i64 z, .int .i64 u] 3)
  have h2 := Ints.pair MAll (w.alloc (.cells #[.int .i64 x, .int .i64 y] 3)) z u 3 trivial
  have h4 := (Mixes.two h1 h2 2 2 23).mono (D' := MAll) fun _ _ _ => trivial
  simpa using h4
theorem exM1_at (w : World) (x : Int) : Mixes MAll ((w.alloc (.cells #[.int .i64 x] 3)).alloc (.cells #[.slice (some ⟨w.heap.size, 0, none⟩) 1 1] 23)) (some ⟨w.heap.size + 1, 0, none⟩) [[x]] := by
  have h1 := Ints.one MAll w x 3 trivial
  have h4 := (Mixes.one h1 1 23).mono (D' := MAll) fun _ _ _ => trivial
  simpa using h4

theorem exP1 : ProOk [[4, 1], [2, 9]] [10, 10] [1, 0] 3 [1, 2] [0, 0] := by
  refine ⟨by decide, by decide, rfl, rfl, ?_, ?_, ?_, ?_, ?_, by decide⟩
  · unfold Ins; decide
  · unfold Ins; decide
  · decide
  · decide
  · decide
theorem exP2p : PreP [[4, 1], [2, 9]] [10, 10] [0, 1] 13 [4, 9] [0, 0] := by
  refine ⟨by decide, by decide, rfl, rfl, ?_, ?_⟩
  · unfold Ins; decide
  · unfold Ins; decide
theorem exP2 : ¬ ProOk [[4, 1], [2, 9]] [10, 10] [0, 1] 13 [4, 9] [0, 0] := fun h => by
  have := h.uv 0 (by decide) 1 (by decide) (by decide)
  revert this
  decide

end Go.Proofs.Ytddjkmaigifomaa
