/-
  Walks over the reference's New, Step, Total, Clear.
-/
import Derived.Test.YtinoekldcchfhaaWf
import Derived.Deep.RegionLaw
set_option linter.unusedVariables false
set_option linter.unusedSimpArgs false
namespace Go.Proofs.Ytinoekldcchfhaa
open Go.RowKit

theorem boxes2 (w : World) (A B : Array Value) (t t' : TypeId) :
    ((w.alloc (.cells A t)).alloc (.cells B t')).rowIs w.heap.size t A.size (fun i => A.getD i undef) ∧ ((w.alloc (.cells A t)).alloc (.cells B t')).rowIs (w.heap.size + 1) t' B.size (fun i => B.getD i undef) ∧
      ((w.alloc (.cells A t)).alloc (.cells B t')).heap.size = w.heap.size + 2 ∧ Mod NoBlock w ((w.alloc (.cells A t)).alloc (.cells B t')) :=
  ⟨(rowIs_new w _ _).alloc _, by have := rowIs_new (w.alloc (.cells A t)) B t'; simpa using this, by simp, ((Mod.refl _ _).alloc _).alloc _⟩

theorem noughts_succ (k m : Nat) : noughts k m ++ [List.replicate m 0] = noughts (k + 1) m := by simp [noughts, List.replicate_succ']

set_option maxRecDepth 100000 in
set_option maxHeartbeats 1600000 in
theorem refNew_ok (n m : Nat) (w : World) (hn : 1 ≤ n) (hn2 : n ≤ 16) (hm : 1 ≤ m) (hm2 : m ≤ 16) :
    Calls Try.prog 11 #[.int .i64 n, .int .i64 m] w fun e w' => ∃ a c, e = .returned (.tuple #[.agg #[.int .i64 m, .slice a n c], .int .i64 0]) ∧ n ≤ c ∧ Mod NoBlock w w' ∧
      Mixes (fun b => w.heap.size ≤ b) w' a (noughts n m) := by
  have d1 : decide ((n : Int) < 1) = false := by simp; omega
  have d2 : decide ((m : Int) < 1) = false := by simp; omega
  go_enter Try.func11, Try.ntmps11
  go_wp2
  have hrb : (((w.alloc (.cells #[.int .i64 0, .slice Option.none 0 0] 28)).alloc (.cells #[.int .i64 m, .slice Option.none 0 0] 28))).rowIs w.heap.size 28 2 (fun i => (#[.int .i64 0, .slice Option.none 0 0] : Array Value).getD i undef) := (rowIs_new w _ _).alloc _
  have hsb : (((w.alloc (.cells #[.int .i64 0, .slice Option.none 0 0] 28)).alloc (.cells #[.int .i64 m, .slice Option.none 0 0] 28))).rowIs (w.heap.size + 1) 28 2 (fun i => (#[.int .i64 m, .slice Option.none 0 0] : Array Value).getD i undef) := by
    have := rowIs_new (w.alloc (.cells #[.int .i64 0, .slice Option.none 0 0] 28)) #[.int .i64 m, .slice Option.none 0 0] 28
    simpa using this
  have hm0 : Mod NoBlock w ((w.alloc (.cells #[.int .i64 0, .slice Option.none 0 0] 28)).alloc (.cells #[.int .i64 m, .slice Option.none 0 0] 28)) := ((Mod.refl _ _).alloc _).alloc _
  have hsz0 : ((w.alloc (.cells #[.int .i64 0, .slice Option.none 0 0] 28)).alloc (.cells #[.int .i64 m, .slice Option.none 0 0] 28)).heap.size = w.heap.size + 2 := by simp
  generalize (w.alloc (.cells #[.int .i64 0, .slice Option.none 0 0] 28)).alloc (.cells #[.int .i64 m, .slice Option.none 0 0] 28) = w0 at hrb hsb hm0 hsz0 ⊢
  have Hrb := Lib.hid hrb
  have Hsb := Lib.hid hsb
  have Hm0 := Lib.hid hm0
  have Hsz0 := Lib.hid hsz0
  clear hrb hsb hm0 hsz0
  go_loopw [7] (fun i wr => ∃ (k : Nat) (ao : Option Addr) (co : Nat), k ≤ n ∧ i = .int .i64 k ∧ Mod NoBlock w wr ∧
      wr.rowIs w.heap.size 28 2 (fun i => (#[.int .i64 0, .slice Option.none 0 0] : Array Value).getD i undef) ∧
      wr.rowIs (w.heap.size + 1) 28 2 (fun i => (#[.int .i64 m, .slice ao k co] : Array Value).getD i undef) ∧ OwnRows wr (w.heap.size + 2) 35 ao co (noughts k m)) (fun i _ => n - (intOf i).toNat)
  case atStart => exact ⟨0, Option.none, 0, by omega, rfl, Hm0.out, Hrb.out, Hsb.out, OwnRows.nil _ _ _⟩
  case round =>
    obtain ⟨k, ao, co, hk, rfl, hmod, hrb, hsb, hrows⟩ := hrel
    obtain ⟨vs, hown, hvals⟩ := hrows
    have c1 : wr.cell? ⟨w.heap.size + 1, 1, Option.none⟩ = some (.slice ao k co) := hsb.cell (by omega)
    by_cases hkn : k < n
    · have hsbl := hsb.lt
      have hne : some (w.heap.size + 1) ≠ blockOf ao := fun e => by have := hown.lt e.symm; omega
      have hne0 : some w.heap.size ≠ blockOf ao := fun e => by have := hown.lt e.symm; omega
      have hnao : ∀ b, blockOf ao = some b → b < wr.heap.size := fun b e => (hown.lt e).2
      have hvl : vs.length = k := by rw [hvals.1, noughts_length]
      have Hown := Lib.hid hown
      have Hvals := Lib.hid hvals
      have Hmod := Lib.hid hmod
      have Hrb := Lib.hid hrb
      have Hsb := Lib.hid hsb
      have Hvl := Lib.hid hvl
      clear hown hvals hmod hrb hsb hvl
      go_wp2
      go_region_law (first
          | (refine step_append1 (vs := vs) (by rfl) (.tmp 31) (.tmp 34) _ (by rfl) elemMixes k 1 (k + 1) 1 [.slice a1 m m] (by rfl) (by rfl) Hvl.out.symm (by simp) (by omega) ((Hown.out.mod hm1' (fun _ _ => id)).alloc _) (Src.one _ _ _) (by simp [Value.oneCell']) (by simp only [maxLen]; omega) (by omega) (by simp; omega) ?_
             intro a4 c4 w4 hown4 hgrow4 hat4
             have hb4 : w4.heap[w.heap.size + 1]? = wr.heap[w.heap.size + 1]? := ((hgrow4.block _ (by simp; omega) hne).trans (Below.heap_alloc w1 _ _ (by omega))).trans (hm1'.block _ hsbl (fun h => h))
             have hr4 := Hsb.out.of_block hb4
             have st1 : w4.cell? ⟨w.heap.size + 1, 1, Option.none⟩ = some (.slice ao k co) := hr4.cell (by omega)
             have st2 : w4.frozen? ⟨w.heap.size + 1, 1, Option.none⟩ = false := hr4.frozen 1)
          | (go_simp; go_at_call 26; refine (emptyMix_any m _ (by omega)).mono ?_; rintro e w1 ⟨a1, rfl, hx1, hm1⟩
             have hm1' : Mod NoBlock wr w1 := ⟨hm1.os, hm1.tape, hm1.output, hm1.size, hm1.block⟩
             have hsz1 : wr.heap.size ≤ w1.heap.size := hm1.size
             have st0 : w1.cell? ⟨w.heap.size + 1, 1, Option.none⟩ = some (.slice ao k co) := hm1'.cell c1 (fun h => h)
             have st3 : w.heap.size + 1 < w1.heap.size := by omega))
      all_goals
        have hm5 : Mod NoBlock w (w4.setCell ⟨w.heap.size + 1, 1, Option.none⟩ (.slice a4 (k + 1) c4)) :=
          (((Hmod.out.trans hm1').alloc _).grown hgrow4 fun b hb => .inr (by have := (Hown.out.lt hb).1; omega)).setCell (p := ⟨w.heap.size + 1, 1, Option.none⟩) (.inr (by simp)) _
        have hrb5 : (w4.setCell ⟨w.heap.size + 1, 1, Option.none⟩ (.slice a4 (k + 1) c4)).rowIs w.heap.size 28 2 (fun i => (#[.int .i64 0, .slice Option.none 0 0] : Array Value).getD i undef) := by
          refine World.rowIs.setOther ?_ (by simp) _
          exact Hrb.out.of_block (((hgrow4.block _ (by simp; omega) hne0).trans (Below.heap_alloc w1 _ _ (by omega))).trans (hm1'.block _ (by omega) (fun h => h)))
        have hsb5 : (w4.setCell ⟨w.heap.size + 1, 1, Option.none⟩ (.slice a4 (k + 1) c4)).rowIs (w.heap.size + 1) 28 2 (fun i => (#[.int .i64 m, .slice a4 (k + 1) c4] : Array Value).getD i undef) := by
          refine (hr4.set 1 _).congr fun i hi => ?_
          rcases (by omega : i = 0 ∨ i = 1) with rfl | rfl <;> rfl
        have hx5 : Ints (fun b => w.heap.size + 2 ≤ b ∧ some b ≠ blockOf ao) w1 a1 (List.replicate m 0) := by
          refine hx1.mono fun b _ hb => ?_
          have hb2 : wr.heap.size ≤ b := hb
          exact ⟨by omega, fun e => by have := hnao b e.symm; omega⟩
        have hrows5 : OwnRows (w4.setCell ⟨w.heap.size + 1, 1, Option.none⟩ (.slice a4 (k + 1) c4)) (w.heap.size + 2) 35 a4 c4 (noughts (k + 1) m) := by
          rw [← noughts_succ]
          refine (OwnRows.snoc (cr := m) (xs := List.replicate m 0) (Hvals.out.mod hm1' fun _ _ _ => id) hx5 ((Mod.refl NoBlock w1).alloc _) (by rw [List.length_replicate]; exact hown4) hgrow4 hat4).mod ((Mod.refl (fun b => b = w.heap.size + 1) w4).set1 _ _) (fun b _ hb e => by omega)
        have Hm5 := Lib.hid hm5
        have Hrb5 := Lib.hid hrb5
        have Hsb5 := Lib.hid hsb5
        have Hrows5 := Lib.hid hrows5
        clear hm5 hrb5 hsb5 hrows5 hx5 hown4 hgrow4 hat4 hr4 st1 st2 hb4
        go_wp2
        exact ⟨⟨k + 1, a4, c4, by omega, by go_num, Hm5.out, Hrb5.out, Hsb5.out, Hrows5.out⟩, by simp [intOf]; omega⟩
    · have c0 : wr.cell? ⟨w.heap.size + 1, 0, Option.none⟩ = some (.int .i64 m) := hsb.cell (by omega)
      have b0 : wr.cell? ⟨w.heap.size, 0, Option.none⟩ = some (.int .i64 0) := hrb.cell (by omega)
      have b1 : wr.cell? ⟨w.heap.size, 1, Option.none⟩ = some (.slice Option.none 0 0) := hrb.cell (by omega)
      have f0 : wr.frozen? ⟨w.heap.size, 0, Option.none⟩ = false := hrb.frozen 0
      have f1 : wr.frozen? ⟨w.heap.size, 1, Option.none⟩ = false := hrb.frozen 1
      have Hown := Lib.hid hown
      have Hvals := Lib.hid hvals
      have Hmod := Lib.hid hmod
      have Hrb := Lib.hid hrb
      have Hsb := Lib.hid hsb
      clear hown hvals hmod hrb hsb
      go_wp2
      obtain rfl : k = n := by omega
      have hm6 : Mod NoBlock w ((wr.setCell ⟨w.heap.size, 0, Option.none⟩ (.int .i64 m)).setCell ⟨w.heap.size, 1, Option.none⟩ (.slice ao k co)) :=
        (Hmod.out.setCell (p := ⟨w.heap.size, 0, Option.none⟩) (.inr (Nat.le_refl _)) _).setCell (p := ⟨w.heap.size, 1, Option.none⟩) (.inr (Nat.le_refl _)) _
      have hrb6 : ((wr.setCell ⟨w.heap.size, 0, Option.none⟩ (.int .i64 m)).setCell ⟨w.heap.size, 1, Option.none⟩ (.slice ao k co)).rowIs w.heap.size 28 2 (fun i => (#[.int .i64 m, .slice ao k co] : Array Value).getD i undef) := by
        refine ((Hrb.out.set 0 _).set 1 _).congr fun i hi => ?_
        rcases (by omega : i = 0 ∨ i = 1) with rfl | rfl <;> rfl
      have hrows6 := OwnRows.mod ⟨vs, Hown.out, Hvals.out⟩ (((Mod.refl (fun b => b = w.heap.size) wr).set1 0 (.int .i64 m)).set1 1 (.slice ao k co)) (fun b _ hb e => by omega)
      generalize (wr.setCell ⟨w.heap.size, 0, Option.none⟩ (.int .i64 m)).setCell ⟨w.heap.size, 1, Option.none⟩ (.slice ao k co) = w6 at hm6 hrb6 hrows6 ⊢
      have g0 : w6.cell? ⟨w.heap.size, 0, Option.none⟩ = some (.int .i64 m) := hrb6.cell (by omega)
      have g1 : w6.cell? ⟨w.heap.size, 1, Option.none⟩ = some (.slice ao k co) := hrb6.cell (by omega)
      refine bodyPost_ret (v := .tuple #[.agg #[.int .i64 m, .slice ao k co], .int .i64 0]) (by simp [results, Try.results11, go_sem, g0, g1]) rfl ⟨ao, co, rfl, by have := hrows6.cap; rw [noughts_length] at this; exact this, hm6, ?_⟩
      exact hrows6.mixes (fun b hb _ => by omega) (by rw [noughts_length]; simp [maxLen]; omega)

set_option maxHeartbeats 800000 in
theorem refNew_bad (n m : Int) (w : World) (h : n < 1 ∨ 16 < n ∨ m < 1 ∨ 16 < m) :
    Calls Try.prog 11 #[.int .i64 n, .int .i64 m] w fun e w' => e = .returned (.tuple #[.agg #[.int .i64 0, .slice Option.none 0 0], .int .i64 1]) ∧ Mod NoBlock w w' := by
  by_cases h1 : n < 1
  · go_enter Try.func11, Try.ntmps11
    go_wp2
    exact bodyPost_ret (v := .tuple #[.agg #[.int .i64 0, .slice Option.none 0 0], .int .i64 1]) (by simp [results, Try.results11, go_sem]) rfl ⟨rfl, (Mod.refl _ _).alloc _⟩
  · have d1 : decide (n < 1) = false := by simpa using h1
    by_cases h2 : 16 < n
    · clear h
      go_enter Try.func11, Try.ntmps11
      go_wp2
      exact bodyPost_ret (v := .tuple #[.agg #[.int .i64 0, .slice Option.none 0 0], .int .i64 1]) (by simp [results, Try.results11, go_sem]) rfl ⟨rfl, (Mod.refl _ _).alloc _⟩
    · have d2 : decide (16 < n) = false := by simpa using h2
      by_cases h3 : m < 1
      · clear h
        go_enter Try.func11, Try.ntmps11
        go_wp2
        exact bodyPost_ret (v := .tuple #[.agg #[.int .i64 0, .slice Option.none 0 0], .int .i64 1]) (by simp [results, Try.results11, go_sem]) rfl ⟨rfl, (Mod.refl _ _).alloc _⟩
      · have d3 : decide (m < 1) = false := by simpa using h3
        have h4 : 16 < m := by omega
        clear h
        go_enter Try.func11, Try.ntmps11
        go_wp2
        exact bodyPost_ret (v := .tuple #[.agg #[.int .i64 0, .slice Option.none 0 0], .int .i64 1]) (by simp [results, Try.results11, go_sem]) rfl ⟨rfl, (Mod.refl _ _).alloc _⟩

set_option maxRecDepth 100000 in
set_option maxHeartbeats 800000 in
theorem refStep_bad (D : Nat → Prop) (m : Nat) (sv : Value) (a : Option Addr) (c : Nat) (xs : List Int) (w : World) (hx : Ints D w a xs) (a2 : Option Addr) (n2 c2 : Nat) (hv : validL xs m = false) :
    Calls Try.prog 22 #[.agg #[.int .i64 m, .slice a2 n2 c2], .slice a xs.length c] w fun e w' => e = .returned (.tuple #[.agg #[.int .i64 m, .slice a2 n2 c2], .slice Option.none 0 0, .int .i64 18]) ∧ Mod NoBlock w w' := by
  have hx2 : ∀ o o', Ints D ((w.alloc o).alloc o') a xs := fun o o' => (hx.alloc o).alloc o'
  have Hx := Lib.hid hx2
  clear hx hx2
  go_enter Try.func22, Try.ntmps22
  go_wp2_with (go_at_call 23; refine (rvalid_any _ _ _ _ _ _ (Hx.out _ _)).mono ?_; rintro e w1 ⟨rfl, rfl⟩; rw [hv])
  exact bodyPost_ret (v := .tuple #[.agg #[.int .i64 m, .slice a2 n2 c2], .slice Option.none 0 0, .int .i64 18]) (by simp [results, Try.results22, go_sem]) rfl ⟨rfl, ((Mod.refl _ _).alloc _).alloc _⟩

set_option maxRecDepth 100000 in
set_option maxHeartbeats 1600000 in
theorem refStep_ok (D E : Nat → Prop) (m n : Nat) (sl : List (List Int)) (a2 : Option Addr) (c2 : Nat) (a : Option Addr) (c : Nat) (xs : List Int) (w : World) (hs : Mixes D w a2 sl) (hx : Ints E w a xs) (hv : validL xs m = true)
    (hm : m ≤ 16) (hn : sl.length = n) (hcap : n ≤ c2) (hn1 : 1 ≤ n) (hn2 : n ≤ 16) (hrows : ∀ i, i < n → (rx sl i).length = m) :
    Calls Try.prog 22 #[.agg #[.int .i64 m, .slice a2 n c2], .slice a xs.length c] w fun e w' => ∃ a' c' a3 c3, e = .returned (.tuple #[.agg #[.int .i64 m, .slice a' n c'],   .slice a3 m c3, .int .i64 0]) ∧ n ≤ c' ∧ Mod NoBlock w w' ∧
      Mixes (fun b => D b ∨ w.heap.size ≤ b) w' a' (xs :: sl.dropLast) ∧ Ints (fun b => w.heap.size ≤ b) w' a3 (rx sl (n - 1)) := by
  have hlx : xs.length = m := valid_len hv
  have hx2 : ∀ o o', Ints E ((w.alloc o).alloc o') a xs := fun o o' => (hx.alloc o).alloc o'
  obtain ⟨b, off, aL, cL, rfl, hDb, hcL, hxL⟩ := hs.row (k := n - 1) (by omega)
  obtain ⟨vs, hvs, hsrc⟩ := hs.vals
  have q0 : (0 : Int) ≤ (n : Int) - 1 := by omega
  have q1 : (n : Int) - 1 ≤ (c2 : Int) := by omega
  have HcL := Lib.hid hcL
  have HxL := Lib.hid hxL
  clear hcL hxL
  have Hx := Lib.hid hx2
  have Hs := Lib.hid hs
  have Hvs := Lib.hid hvs
  have Hsrc := Lib.hid hsrc
  have Hlx := Lib.hid hlx
  have Hn := Lib.hid hn
  have Hrows := Lib.hid hrows
  clear hx hx2 hs hvs hsrc hlx hn hrows
  go_enter Try.func22, Try.ntmps22
  go_wp2_with (go_at_call 23; refine (rvalid_any _ _ _ _ _ _ (Hx.out _ _)).mono ?_; rintro e w1 ⟨rfl, rfl⟩; rw [hv])
  have hxc := Hx.out (.cells #[.int .i64 m, .slice (some ⟨b, off, Option.none⟩) n c2] 28) (.cells #[.int .i64 0, .slice Option.none 0 0] 28)
  obtain ⟨hbs, hrb, hsz0, hm0⟩ := boxes2 w #[.int .i64 m, .slice (some ⟨b, off, Option.none⟩) n c2] #[.int .i64 0, .slice Option.none 0 0] 28 28
  refine (copied_any a c xs E _ hxc (by rw [Hlx.out]; omega)).mono ?_
  rintro e w1 ⟨a1, c1, rfl, hx1, hm1⟩
  have hbs1 := hbs.of_block (hm1.block _ hbs.lt (fun h => h))
  have hrb1 := hrb.of_block (hm1.block _ hrb.lt (fun h => h))
  have hm01 := hm0.trans hm1
  rw [hsz0] at hx1
  clear hxc hbs hrb
  have hsz1 : w.heap.size + 2 ≤ w1.heap.size := by have := hm1.size; omega
  clear hm0 hm1 hsz0
  have c0 : w1.cell? ⟨w.heap.size, 0, Option.none⟩ = some (.int .i64 m) := hbs1.cell (by simp)
  have c1' : w1.cell? ⟨w.heap.size, 1, Option.none⟩ = some (.slice (some ⟨b, off, Option.none⟩) n c2) := hbs1.cell (by simp)
  have hbl : w.heap.size < w1.heap.size := by omega
  have Hbs1 := Lib.hid hbs1
  have Hrb1 := Lib.hid hrb1
  have Hm01 := Lib.hid hm01
  have Hx1 := Lib.hid hx1
  clear hbs1 hrb1 hm01 hx1
  go_wp2_with (at_builtin; refine wpList_append1 (vs := [.slice a1 xs.length c1]) rfl (.tmp 21) (.tmp 26) _ rfl elemMixes 1 (n - 1) n c2 (vs.take (n - 1)) rfl rfl rfl (by rw [List.length_take, Hvs.out.1, Hn.out]; omega) (by omega) (Own.fresh w1 (w.heap.size + 2) _ hsz1 #[.slice a1 xs.length c1] (by simp [maxLen])) (Src.take (Hsrc.out.mod (Hm01.out.alloc _) (fun _ _ => id)) _) (fun u hu => Hvs.out.one u (List.mem_of_mem_take hu)) (by simp only [maxLen]; omega) (by omega) (by simp; omega) ?_; intro a4 c4 w3 hown hgrow hat)
  have hm3 : Mod NoBlock w w3 := (Hm01.out.alloc _).grown hgrow fun k hk => .inr (by have e : w1.heap.size = k := Option.some.inj hk; omega)
  have hb3 : ∀ k, k < w1.heap.size → w3.heap[k]? = w1.heap[k]? := fun k hk => (hgrow.block k (by simp; omega) (by simp [blockOf]; omega)).trans (Below.heap_alloc w1 _ k hk)
  have hbs3 := Hbs1.out.of_block (hb3 _ hbl)
  have hrb3 := Hrb1.out.of_block (hb3 _ (by omega))
  have d0 : w3.cell? ⟨w.heap.size, 0, Option.none⟩ = some (.int .i64 m) := hbs3.cell (by simp)
  have d1 : w3.cell? ⟨w.heap.size, 1, Option.none⟩ = some (.slice (some ⟨b, off, Option.none⟩) n c2) := hbs3.cell (by simp)
  have hblt := World.block_lt_of_cell? w _ HcL.out
  have d2 : w3.cell? ⟨b, off + (n - 1), Option.none⟩ = some (.slice aL m cL) := by rw [← Hrows.out (n - 1) (by omega)]; exact hm3.cell HcL.out (fun h => h)
  have hsz3 : w1.heap.size < w3.heap.size := by have := hgrow.size; simp at this; omega
  have hxL3 : Ints D w3 aL (rx sl (n - 1)) := HxL.out.frame hm3
  have hvs4 : RowVals (fun k => (D k ∧ k < w.heap.size) ∨ w.heap.size + 2 ≤ k) w3 ([.slice a1 xs.length c1] ++ vs.take (n - 1)) ([xs] ++ sl.dropLast) := by
    refine RowVals.append (RowVals.single ((Hx1.out.mod (((Mod.refl (fun k => k = w1.heap.size) w1).alloc _).grown hgrow fun k hk => .inl (Option.some.inj hk).symm) (fun k hk _ e => by omega)).mono fun k _ hk => .inr (by omega)) c1) ?_
    have := ((Hvs.out.mono (D' := fun k => D k ∧ k < w.heap.size) fun k hk hd => ⟨hd, hk⟩).mod hm3 (fun _ _ _ => id)).take (n - 1)
    rw [List.dropLast_eq_take, Hn.out]
    exact this.mono fun k _ hk => .inl hk
  have Hown := Lib.hid hown
  have Hgrow := Lib.hid hgrow
  have Hm3 := Lib.hid hm3
  have Hbs3 := Lib.hid hbs3
  have Hrb3 := Lib.hid hrb3
  have HxL3 := Lib.hid hxL3
  have Hvs4 := Lib.hid hvs4
  clear hown hgrow hm3 hb3 hbs3 hrb3 hxL3 hvs4 c0 c1'
  have r0 : w3.cell? ⟨w.heap.size + 1, 0, Option.none⟩ = some (.int .i64 0) := Hrb3.out.cell (by simp)
  have r1 : w3.cell? ⟨w.heap.size + 1, 1, Option.none⟩ = some (.slice Option.none 0 0) := Hrb3.out.cell (by simp)
  have z0 : (0 : Int) ≤ (n : Int) - 1 := by omega
  have z1 : (n : Int) - 1 < (n : Int) := by omega
  have z4 : (1 : Int) ≤ (n : Int) := by omega
  have z5 : 0 < n := by omega
  have hblt2 : b < w.heap.size := hblt
  have hne1 : b ≠ w.heap.size + 1 := by omega
  have hne2 : w.heap.size + 1 ≠ b := by omega
  have z2 : IntKind.i64.wrap ((n : Int) - 1) = (n : Int) - 1 := IntWalk.i64_in _ (by omega)
  have z3 : ((n : Int) - 1).toNat = n - 1 := by omega
  go_wp2
  go_region_held3 (fun w' => w'.cell? ⟨w.heap.size, 0, Option.none⟩ = some (.int .i64 m) ∧ w'.cell? ⟨w.heap.size, 1, Option.none⟩ = some (.slice (some ⟨b, off, Option.none⟩) n c2) ∧ w'.cell? ⟨b, off + (n - 1), Option.none⟩ = some (.slice aL m cL))
    (first
      | go_keep
      | (go_split_ands
         exact ⟨hm5.cell ‹_› (fun h => h), hm5.cell ‹_› (fun h => h), hm5.cell ‹_› (fun h => h)⟩)
      | (go_split_ands
         refine ⟨?_, ?_, ?_⟩ <;> first | go_keep | (rw [World.cell?_setCell_other _ _ _ _ (by simp <;> omega), World.cell?_setCell_other _ _ _ _ (by simp <;> omega)]; assumption))
      | ((try dsimp only); (repeat' apply And.intro) <;> go_keep))
    (first
      | (go_at_call 29; refine (copied_n aL cL m (rx sl (n - 1)) D _ (Hrows.out (n - 1) (by omega)) (by exact HxL3.out) (by omega)).mono ?_; rintro e w5 ⟨a5, c5, rfl, hx5, hm5⟩
         have hrb5 := Hrb3.out.drew.of_block (hm5.block _ (by show _ < w3.heap.size; omega) (fun h => h))
         have s0 : w5.cell? ⟨w.heap.size + 1, 0, Option.none⟩ = some (.int .i64 0) := hrb5.cell (by simp)
         have s1 : w5.cell? ⟨w.heap.size + 1, 1, Option.none⟩ = some (.slice Option.none 0 0) := hrb5.cell (by simp)
         have s2 : w5.frozen? ⟨w.heap.size + 1, 0, Option.none⟩ = false := hrb5.frozen 0
         have s3 : w5.frozen? ⟨w.heap.size + 1, 1, Option.none⟩ = false := hrb5.frozen 1
         have s4 : w3.heap.size ≤ w5.heap.size := hm5.size))
  have hm35 : Mod NoBlock w3 w5 := ⟨hm5.os, hm5.tape, hm5.output, hm5.size, hm5.block⟩
  have hset : Mod (fun k => k = w.heap.size + 1) w5 ((w5.setCell ⟨w.heap.size + 1, 0, Option.none⟩ (.int .i64 m)).setCell ⟨w.heap.size + 1, 1, Option.none⟩ (.slice a4 n c4)) :=
    ((Mod.refl (fun k => k = w.heap.size + 1) w5).set1 0 _).set1 1 _
  have hm6 := (Hm3.out.trans hm35).step hset (fun i hi e => by omega)
  have hrb6 : ((w5.setCell ⟨w.heap.size + 1, 0, Option.none⟩ (.int .i64 m)).setCell ⟨w.heap.size + 1, 1, Option.none⟩ (.slice a4 n c4)).rowIs (w.heap.size + 1) 28 2 (fun i => (#[.int .i64 m, .slice a4 n c4] : Array Value).getD i undef) := by
    refine ((hrb5.set 0 _).set 1 _).congr fun i hi => ?_
    have hi2 : i < 2 := by simpa using hi
    rcases (by omega : i = 0 ∨ i = 1) with rfl | rfl <;> rfl
  have hlen6 : ([Value.slice a1 xs.length c1] ++ vs.take (n - 1)).length = n := by
    rw [List.length_append, List.length_take, Hvs.out.1, Hn.out]; simp; omega
  have hown6 := (Hown.out.mod hm35 (fun _ _ => id)).mod hset (fun k hk e => by have := (Hown.out.lt hk).1; omega)
  have hvs6 := (Hvs4.out.mod hm35 (fun _ _ _ => id)).mod hset (fun k _ hk e => by rcases hk with hk | hk <;> omega)
  have hmix : Mixes (fun k => D k ∨ w.heap.size ≤ k) ((w5.setCell ⟨w.heap.size + 1, 0, Option.none⟩ (.int .i64 m)).setCell ⟨w.heap.size + 1, 1, Option.none⟩ (.slice a4 n c4)) a4 ([xs] ++ sl.dropLast) :=
    hown6.mixes (hvs6.mono fun k _ hk => by rcases hk with hk | hk
                                            · exact .inl hk.1
                                            · exact .inr (by omega)) (fun k hk _ => .inr (by omega)) (by simp [maxLen]; have := Hn.out; omega)
  have hx6 : Ints (fun k => w.heap.size ≤ k) ((w5.setCell ⟨w.heap.size + 1, 0, Option.none⟩ (.int .i64 m)).setCell ⟨w.heap.size + 1, 1, Option.none⟩ (.slice a4 n c4)) a5 (rx sl (n - 1)) :=
    (hx5.mod hset (fun k _ hk e => by have h2 : w3.heap.size ≤ k := hk
                                      omega)).mono fun k _ hk => by have h2 : w3.heap.size ≤ k := hk
                                                                    omega
  have hcap6 : n ≤ c4 := by have := Hown.out.cap; rw [hlen6] at this; exact this
  generalize (w5.setCell ⟨w.heap.size + 1, 0, Option.none⟩ (.int .i64 m)).setCell ⟨w.heap.size + 1, 1, Option.none⟩ (.slice a4 n c4) = w6 at hm6 hrb6 hmix hx6 hset hown6 hvs6 ⊢
  clear hset hown6 hvs6 hm35 hm5 hx5 hrb5 s0 s1 s2 s3
  have g0 : w6.cell? ⟨w.heap.size + 1, 0, Option.none⟩ = some (.int .i64 m) := hrb6.cell (by simp)
  have g1 : w6.cell? ⟨w.heap.size + 1, 1, Option.none⟩ = some (.slice a4 n c4) := hrb6.cell (by simp)
  have Hmix := Lib.hid hmix
  have Hx6 := Lib.hid hx6
  have Hm6 := Lib.hid hm6
  clear hmix hx6 hm6 hrb6 hlen6
  go_wp2
  refine bodyPost_ret (v := .tuple #[.agg #[.int .i64 m, .slice a4 n c4], .slice a5 m c5, .int .i64 0]) (by simp [results, Try.results22, go_sem, g0, g1]) rfl ⟨a4, c4, a5, c5, rfl, hcap6, Hm6.out, Hmix.out, Hx6.out⟩

end Go.Proofs.Ytinoekldcchfhaa
