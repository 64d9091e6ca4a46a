/-
  Walk over the reference's Sub of mixes.
-/
import Derived.Test.YtghciackhkimoaaVj
set_option linter.unusedVariables false
set_option linter.unusedSimpArgs false
namespace Go.Proofs.Ytghciackhkimoaa
open Go.RowKit

theorem any_under {a b : List Int} {k : Nat} (h : a.length = b.length) (hk : k < a.length) (ho : ix a k < ix b k) : (diffsL a b).any (fun n => decide (n < 0)) = true := by
  have h1 : k < (diffsL a b).length := by rw [diffsL_length h]; exact hk
  rw [List.any_eq_true]
  refine ⟨_, List.getElem_mem h1, ?_⟩
  rw [← ix_eq h1, ix_diffsL h hk]; simp; omega
theorem none_under {a b : List Int} (h : a.length = b.length) (ho : ∀ k, k < a.length → ix b k ≤ ix a k) : (diffsL a b).any (fun n => decide (n < 0)) = false := by
  rw [List.any_eq_false]
  intro x hx
  obtain ⟨k, hk, rfl⟩ := List.mem_iff_getElem.1 hx
  have hk2 : k < a.length := by rw [diffsL_length h] at hk; exact hk
  rw [← ix_eq hk, ix_diffsL h hk2]
  have := ho k hk2
  simp; omega

set_option maxRecDepth 100000 in
set_option maxHeartbeats 1600000 in
theorem rsub_any (a1 a2 : Option Addr) (c1 c2 : Nat) (xs ys : List Int) (D1 D2 : Nat → Prop) (w : World) (hx : Ints D1 w a1 xs) (hy : Ints D2 w a2 ys) :
    Calls Try.prog 18 #[.slice a1 xs.length c1, .slice a2 ys.length c2] w (ListErr (subL xs ys) w) := by
  by_cases hb : bothL xs ys = 0
  · obtain ⟨f1, f2, hl⟩ := both_zero hb
    obtain ⟨l1, g1⟩ := ok_of_fault f1
    obtain ⟨l2, g2⟩ := ok_of_fault f2
    have hadd : subL xs ys = if (diffsL xs ys).any (fun n => decide (n < 0)) then ([], 1) else (diffsL xs ys, 0) := by unfold subL; rw [if_neg (by simpa using hb)]
    obtain ⟨_, b1, o1, hb1, hc1⟩ := hx.open
    obtain ⟨_, b2, o2, hb2, hc2⟩ := hy.open
    have Hx := Lib.hid hx
    have Hy := Lib.hid hy
    have Hb := Lib.hid hb
    have Hl := Lib.hid hl
    have Hadd := Lib.hid hadd
    have Hg1 := Lib.hid g1
    have Hg2 := Lib.hid g2
    have Hc1 := Lib.hid hc1
    have Hc2 := Lib.hid hc2
    have hle : xs.length ≤ ys.length := by omega
    clear hx hy hb hl hadd f1 f2 g1 g2 hc1 hc2
    go_enter Try.func18, Try.ntmps18
    go_wp2_with (go_at_call 37; refine (both_any _ _ _ _ _ _ _ _ _ Hx.out Hy.out).mono ?_; rintro e w1 ⟨rfl, rfl⟩; rw [Hb.out])
    go_loopw [7, 8] (fun o i wr => ∃ (k : Nat) (ao : Option Addr) (co : Nat), k ≤ xs.length ∧ i = .int .i64 k ∧ o = .slice ao k co ∧ Mod NoBlock w wr ∧ (∀ j, j < k → ix ys j ≤ ix xs j) ∧ Own wr w.heap.size 3 ao co (((diffsL xs ys).take k).map (Value.int .i64))) (fun _ i _ => xs.length - (intOf i).toNat)
    case atStart => exact ⟨0, Option.none, 0, by omega, rfl, rfl, Mod.refl _ _, fun j hj => absurd hj (by omega), Own.nil _ _ _⟩
    case round =>
      obtain ⟨k, ao, co, hk, rfl, rfl, hmod, hno, hown⟩ := hrel
      by_cases hlt : k < xs.length
      · have h1 := hmod.cell (Hc1.out k hlt) (fun h => h)
        have h2 := hmod.cell (Hc2.out k (by omega)) (fun h => h)
        have hlo1 := World.block_lt_of_cell? _ _ h1
        have hlo2 := World.block_lt_of_cell? _ _ h2
        obtain rfl := hb1 (by intro h; simp [h] at hlt)
        obtain rfl := hb2 (by intro h; rw [h] at hle; simp at hle; simp [hle] at hlt)
        obtain ⟨x0, x1⟩ := Hg1.out k hlt
        obtain ⟨y0, y1⟩ := Hg2.out k (by omega)
        have hsum := ix_diffsL Hl.out hlt
        have Hsum := Lib.hid hsum
        have Hover := Lib.hid (fun h => any_under Hl.out hlt h)
        have hne1 : some b1 ≠ blockOf ao := fun e => by
          have := hown.lt e.symm
          have h3 := World.block_lt_of_cell? w _ (Hc1.out k hlt)
          have h4 : b1 < w.heap.size := h3
          omega
        have hne2 : some b2 ≠ blockOf ao := fun e => by
          have := hown.lt e.symm
          have h3 := World.block_lt_of_cell? w _ (Hc2.out k (by omega))
          have h4 : b2 < w.heap.size := h3
          omega
        have Hmod := Lib.hid hmod
        have Hno := Lib.hid hno
        have Hown := Lib.hid hown
        clear hmod hno hown hsum hb1 hb2
        generalize hgx : ix xs k = x at h1 x0 x1 Hsum Hover
        generalize hgy : ix ys k = y at h2 y0 y1 Hsum Hover
        have Hgx := Lib.hid hgx
        have Hgy := Lib.hid hgy
        clear hgx hgy
        have e6 : IntKind.i64.wrap (x - y) = x - y := IntWalk.i64_in _ (by omega)
        have q1 : (0 : Int) ≤ (k : Int) := by omega
        have q2 : (k : Int) < (xs.length : Int) := by omega
        have q3 : (k : Int) < (ys.length : Int) := by omega
        by_cases hov : x < y
        · go_wp2
          go_quiet (fail)
          go_wp2
          go_ret2
          rw [Hover.out hov] at Hadd
          have hadd := Hadd.out
          rw [if_pos rfl] at hadd
          rw [hadd]
          exact ⟨Option.none, 0, rfl, Hmod.out.drewN _, Ints.nil _ _ _⟩
        · have Hov := Lib.hid hov
          go_wp2
          go_quiet (fail)
          go_wp2
          have Hcx := Lib.hid h1
          go_region_held3 (fun w' => w'.cell? ⟨b1, o1 + k, Option.none⟩ = some (.int .i64 x) ∧ w'.cell? ⟨b2, o2 + k, Option.none⟩ = some (.int .i64 y))
            (first
              | go_keep
              | (go_split_ands
                 refine ⟨?_, ?_⟩
                 · (rw [hgrow.cell_far _ (by simp; omega) hne1]; assumption)
                 · (rw [hgrow.cell_far _ (by simp; omega) hne2]; assumption)))
            ((refine step_append1 (vs := ((diffsL xs ys).take k).map (Value.int .i64)) (by rfl) (.tmp 30) (.tmp 40) _ (by rfl) elemMix k 1 (k + 1) 1 [.int .i64 (x - y)] (by rfl) (by rfl) (by rw [List.length_map, List.length_take, diffsL_length Hl.out]; omega) (by simp) (by omega) (B := w.heap.size) (by exact Own.alloc (Own.drewN Hown.out _) _) (by exact Src.one _ _ _) (by simp [Value.oneCell']) (by simp only [maxLen]; omega) (by omega) (by have := Hmod.out.size; simp; omega) ?_; intro a3 c3 w3 hown3 hgrow hat3))
          have hmod3 : Mod NoBlock w w3 := ((Hmod.out.drewN _).alloc _).grown hgrow fun b hb => .inr (Hown.out.lt hb).1
          have hown4 : Own w3 w.heap.size 3 a3 c3 (((diffsL xs ys).take (k + 1)).map (Value.int .i64)) := by
            rw [take_ix (by rw [diffsL_length Hl.out]; exact hlt), List.map_append, Hsum.out]; exact hown3
          have Hmod3 := Lib.hid hmod3
          have Hown4 := Lib.hid hown4
          clear hmod3 hown4 hown3 hgrow hat3
          go_wp2
          refine ⟨⟨k + 1, a3, c3, by omega, by go_num, rfl, Hmod3.out, fun j hj => ?_, Hown4.out⟩, by simp [intOf]; omega⟩
          by_cases hjk : j = k
          · subst hjk; rw [Hgx.out, Hgy.out]; have := Hov.out; omega
          · exact Hno.out j (by omega)
      · obtain rfl : k = xs.length := by omega
        have Hown := Lib.hid hown
        have Hmod := Lib.hid hmod
        have Hno := Lib.hid hno
        clear hown hmod hno
        go_wp2
        go_ret2
        have hadd := Hadd.out
        rw [none_under Hl.out Hno.out] at hadd
        rw [hadd]
        have hl2 := diffsL_length Hl.out
        have hown := Hown.out
        rw [List.take_of_length_le (by omega)] at hown
        refine ⟨ao, co, by simp [hl2], Hmod.out, hown.ints (fun b hb _ => hb) (by simp [hl2, maxLen]; omega)⟩
  · have hadd : subL xs ys = ([], bothL xs ys) := by unfold subL; rw [if_pos hb]
    have hne : (bothL xs ys != 0) = true := by simpa using hb
    have Hx := Lib.hid hx
    have Hy := Lib.hid hy
    have Hadd := Lib.hid hadd
    clear hx hy hb hadd
    go_enter Try.func18, Try.ntmps18
    go_wp2_with (go_at_call 37; refine (both_any _ _ _ _ _ _ _ _ _ Hx.out Hy.out).mono ?_; rintro e w1 ⟨rfl, rfl⟩)
    go_ret2
    rw [Hadd.out]
    exact ⟨Option.none, 0, rfl, Mod.refl _ _, Ints.nil _ _ _⟩

end Go.Proofs.Ytghciackhkimoaa
