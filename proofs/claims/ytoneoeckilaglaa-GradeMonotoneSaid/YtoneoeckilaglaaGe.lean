/-
  grade.reached: the classes that a purity reaches, as an iterator.
-/
import Derived.Test.YtoneoeckilaglaaGd
import Derived.RangeFuncNested
import Derived.RangeFuncBound
import Derived.RangeFuncCalls
import Derived.RangeFuncLeaves
import Derived.RangeFuncFrom
import Derived.Shelf.Abstract
import Derived.Shelf.RegionOpen
import Derived.OwnWalkIn
import Derived.TacticsInMore
import Derived.LoopNIn
import Derived.LoopIn
set_option linter.unusedVariables false
set_option linter.unusedSimpArgs false
namespace Go.Proofs.Ytoneoeckilaglaa
open Go.RowKit Go.Shelf
attribute [local go_sem] Oper.semAt_some

/-- The first k classes that are reached. -/
def upR (l : List (Int × Int)) (P : Int) (k : Nat) : List Nat := (List.range k).filter fun j => decide ((gx l j).1 ≤ P)
theorem upR_yes {l : List (Int × Int)} {P : Int} {k : Nat} (h : (gx l k).1 ≤ P) : upR l P (k + 1) = upR l P k ++ [k] := by simp [upR, List.range_succ, List.filter_append, h]
theorem upR_no {l : List (Int × Int)} {P : Int} {k : Nat} (h : ¬ (gx l k).1 ≤ P) : upR l P (k + 1) = upR l P k := by simp [upR, List.range_succ, List.filter_append, h]
theorem upR_length (l : List (Int × Int)) (P : Int) (k : Nat) : (upR l P k).length ≤ k := by
  have := List.length_filter_le (fun j => decide ((gx l j).1 ≤ P)) (List.range k)
  simpa [upR] using this

set_option maxRecDepth 100000 in
set_option maxHeartbeats 1000000 in
theorem reached1_in (F : Fence) (n : Nat) (h8 : F.fn 29) (hro : F.round = none) (hn : 1 ≤ n) (ly Bs Bp n₀ b off len cap : Nat) (P : Int) (l : List (Int × Int)) (hlen : l.length = len) (h63 : len ≤ 9223372036854775807) (hb : b < n₀) (hBs : Bs < n₀) (hBp : Bp < n₀) (J Jx : List Nat → World → Prop) (W : World) (hn0 : n₀ ≤ W.heap.size)
    (hJ : AbidesFrom W.heap.size J)
    (hY : ∀ pre x W1, J pre W1 → pre.length < len → YieldAt F (n - 1) Try.prog ly #[.int .i64 ((x : Nat) : Int)] W1 fun e W' =>
      (e = .returned (.bool true) ∧ J (pre ++ [x]) W' ∧ Below n₀ W1 W') ∨ (e = .returned (.bool false) ∧ Jx (pre ++ [x]) W'))
    (hc0 : W.cell? ⟨Bs, 0, none⟩ = some (.slice (some ⟨b, off, none⟩) len cap)) (hp0 : W.cell? ⟨Bp, 0, none⟩ = some (.int .i64 P)) (hc : ∀ j, j < len → W.cell? ⟨b, off + j * 2, none⟩ = some (.int .i64 (gx l j).1) ∧ W.cell? ⟨b, off + j * 2 + 1, none⟩ = some (.int .i64 (gx l j).2)) (h0 : J [] W) :
    CallsIn F n Try.prog 29 #[.func (.yield ly) #[] #[], .pointer (some ⟨Bs, 0, none⟩), .pointer (some ⟨Bp, 0, none⟩)] W fun e W' => (∃ v, e = .returned v) ∧
      ((∃ ys, ys = upR l P len ∧ J ys W') ∨ (∃ pre, (∃ k, k ≤ len ∧ pre = upR l P k) ∧ Jx pre W')) := by
  refine callsIn_of_wp Try.func29 rfl h8 ?_ hro
  simp only [Try.ntmps29, List.size_toArray, List.length_cons, List.length_nil, Nat.reduceAdd, Nat.reduceSub, Array.replicate_succ, Array.replicate_zero, List.push_toArray, List.append_toArray, List.nil_append, List.cons_append]
  gi_wp2
  gi_loopw [4, 5, 8] (fun u v i wr => ∃ k : Nat, k ≤ len ∧ i = .int .i64 k ∧ J (upR l P k) wr ∧ Below n₀ W wr)
    (fun _ _ i _ => len - (intOf i).toNat)
  case atStart => exact ⟨0, Nat.zero_le _, rfl, h0, Below.refl _ _⟩
  case round =>
    obtain ⟨k, hk, rfl, hJs, hnx⟩ := hrel
    by_cases hlt : k < len
    · have g1 := (hnx.cell (p := ⟨b, off + k * 2, none⟩) hb).trans (hc k hlt).1
      have g2 := (hnx.cell (p := ⟨b, off + k * 2 + 1, none⟩) hb).trans (hc k hlt).2
      have g3 := (hnx.cell (p := ⟨Bp, 0, none⟩) hBp).trans hp0
      have hyes := fun h => upR_yes (l := l) (P := P) (k := k) h
      have hno := fun h => upR_no (l := l) (P := P) (k := k) h
      have Hyes := Lib.hid hyes
      have Hno := Lib.hid hno
      have Hlen := Lib.hid (upR_length l P k)
      clear hyes hno
      generalize (gx l k).1 = g at *
      generalize (gx l k).2 = q at *
      have hsz := hnx.size
      have hp9 : (wr.alloc (.cells #[.int .i64 g, .int .i64 q] 35)).cell? ⟨Bp, 0, none⟩ = some (.int .i64 P) := (Mod.refl NoBlock wr |>.alloc _).cell g3 (fun h => h)
      have hJ9 : J (upR l P k) (wr.alloc (.cells #[.int .i64 g, .int .i64 q] 35)) := hJ _ _ _ none hJs (World.grownBy_alloc wr _ none) (fun r e => by cases e)
      have hB9 : Below n₀ W (wr.alloc (.cells #[.int .i64 g, .int .i64 q] 35)) := hnx.alloc (by omega) _
      by_cases hg : g ≤ P
      · obtain ⟨fn, tmps, assign, body, hy, hR⟩ := hY _ k _ hJ9 (by have := Hlen.out; omega)
        try dsimp only at hy
        have d1 : decide (g ≤ P) = true := decide_eq_true hg
        have HB9 := Lib.hid hB9
        clear hJ9 hB9 hJs
        gi_wp2
        refine hR.mono ?_
        rintro e W3 (⟨rfl, hJ3, hk3⟩ | ⟨rfl, hJx3⟩)
        · rw [← Hyes.out hg] at hJ3
          have HJ3 := Lib.hid hJ3
          have HK3 := Lib.hid hk3
          clear hJ3 hk3
          gi_wp2
          go_roundw
          case rel => exact ⟨k + 1, by omega, by go_num, HJ3.out, HB9.out.trans HK3.out⟩
          case measure => simp [intOf]; omega
        · rw [← Hyes.out hg] at hJx3
          have HJ3 := Lib.hid hJx3
          clear hJx3
          gi_wp2
          refine bodyPost_ret (results_none rfl _ _ _) rfl ?_
          exact ⟨⟨_, rfl⟩, .inr ⟨_, ⟨k + 1, by omega, rfl⟩, HJ3.out⟩⟩
      · have d1 : decide (g ≤ P) = false := decide_eq_false hg
        rw [← Hno.out hg] at hJ9
        have HJ9 := Lib.hid hJ9
        have HB9 := Lib.hid hB9
        clear hJ9 hB9 hJs
        gi_wp2
        refine ⟨fun _ h => (by cases h), ?_⟩
        gi_wp2
        go_roundw
        case rel => exact ⟨k + 1, by omega, by go_num, HJ9.out, HB9.out⟩
        case measure => simp [intOf]; omega
    · obtain rfl : k = len := by omega
      gi_wp2
      go_end0
      exact ⟨⟨_, rfl⟩, .inl ⟨_, rfl, hJs⟩⟩

end Go.Proofs.Ytoneoeckilaglaa
