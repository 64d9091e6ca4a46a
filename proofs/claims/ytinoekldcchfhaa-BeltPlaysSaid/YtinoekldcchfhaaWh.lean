/-
  Walks over the reference's Total and Clear.
-/
import Derived.Test.YtinoekldcchfhaaWg
set_option linter.unusedVariables false
set_option linter.unusedSimpArgs false
namespace Go.Proofs.Ytinoekldcchfhaa
open Go.RowKit

theorem emptyMix_row (m : Nat) (w : World) (hm : m ≤ 1000) :
    Calls Try.prog 26 #[.int .i64 m] w fun e w' => e = .returned (.slice (some ⟨w.heap.size, 0, Option.none⟩) m m) ∧ w'.rowIs w.heap.size 3 m (fun _ => .int .i64 0) ∧ Mod NoBlock w w' := by
  have hmk := run_make_row' (P := Try.prog) 35 3 (.int .i64 0) 8 Try.underlying35 infoInt rfl .i64 .i64 m (by omega) (by omega)
  go_enter Try.func26, Try.ntmps26
  go_wp2
  go_ret
  exact ⟨rfl, madeInts w m _, (Mod.refl _ _).alloc _⟩

set_option maxRecDepth 100000 in
set_option maxHeartbeats 1600000 in
theorem refTotal_any (D : Nat → Prop) (m n : Nat) (sl : List (List Int)) (a2 : Option Addr) (c2 : Nat) (w : World) (hs : Mixes D w a2 sl)
    (hm : m ≤ 16) (hn : sl.length = n) (hn2 : n ≤ 16) (hrows : ∀ i, i < n → validL (rx sl i) m = true) :
    Calls Try.prog 16 #[.agg #[.int .i64 m, .slice a2 n c2]] w fun e w' => ∃ a', e = .returned (.slice a' m m) ∧ Mod NoBlock w w' ∧ Ints (fun b => w.heap.size ≤ b) w' a' (totalL m sl) := by
  have hall : ∀ j, j ≤ n → ∀ r ∈ sl.take j, validL r m = true := by
    intro j hj r hr'
    obtain ⟨i, hi, rfl⟩ := List.mem_iff_getElem.1 hr'
    simp at hi
    have h := hrows i (by omega)
    rw [rx_eq (by omega)] at h
    simpa using h
  have Hs := Lib.hid hs
  have Hn := Lib.hid hn
  have Hrows := Lib.hid hrows
  have Hall := Lib.hid hall
  clear hs hn hrows hall
  go_enter Try.func16, Try.ntmps16
  go_wp2_with (go_at_call 26; refine (emptyMix_row _ _ (by omega)).mono ?_; rintro e w1 ⟨rfl, hr1, hm1⟩)
  have hbox := (rowIs_new w #[.int .i64 m, .slice a2 n c2] 28).of_block (hm1.block w.heap.size (by simp) (fun h => h))
  have hsz : (w.alloc (.cells #[.int .i64 m, .slice a2 n c2] 28)).heap.size = w.heap.size + 1 := by simp
  have hm01 := ((Mod.refl NoBlock w).alloc _).trans hm1
  rw [hsz] at hr1
  have Hr1 := Lib.hid hr1
  have Hbox := Lib.hid hbox
  have Hm01 := Lib.hid hm01
  clear hr1 hbox hm01 hm1 hsz
  go_loopw [4] (fun i wr => ∃ j : Nat, j ≤ n ∧ i = .int .i64 j ∧ Mod NoBlock w wr ∧ wr.rowIs w.heap.size 28 2 (fun i => (#[.int .i64 m, .slice a2 n c2] : Array Value).getD i undef) ∧
      wr.rowIs (w.heap.size + 1) 3 m (fun k => .int .i64 (colSum (sl.take j) k))) (fun i _ => n - (intOf i).toNat)
  case atStart => exact ⟨0, by omega, rfl, Hm01.out, Hbox.out, Hr1.out⟩
  case round =>
    obtain ⟨j, hj, rfl, hmod, hbox, hout⟩ := hrel
    have b1 : wr.cell? ⟨w.heap.size, 1, Option.none⟩ = some (.slice a2 n c2) := hbox.cell (by omega)
    have b0 : wr.cell? ⟨w.heap.size, 0, Option.none⟩ = some (.int .i64 m) := hbox.cell (by omega)
    have Hmod := Lib.hid hmod
    have Hbox := Lib.hid hbox
    have Hout := Lib.hid hout
    clear hmod hbox hout
    by_cases hjn : j < n
    · obtain ⟨b, off, a', c', rfl, _, hcell, hints⟩ := Hs.out.row (k := j) (by rw [Hn.out]; exact hjn)
      obtain ⟨lx, b2, o2, ha2, hc2⟩ := hints.open
      have hv := Hrows.out j hjn
      have hrl := valid_len hv
      rw [hrl] at hcell
      have Hcell := Lib.hid hcell
      have Hc2 := Lib.hid hc2
      have Ha2 := Lib.hid ha2
      have Hv := Lib.hid hv
      have Hrl := Lib.hid hrl
      clear hcell hints lx ha2 hc2 hv hrl
      obtain ⟨wo, rfl⟩ : ∃ wo : World, wo = wr := ⟨_, rfl⟩
      go_wp2
      go_loopw [5] (fun i wr => ∃ k : Nat, k ≤ m ∧ i = .int .i64 k ∧ Mod (fun b => b = w.heap.size + 1) wo wr ∧ wr.rowIs (w.heap.size + 1) 3 m (fun q => .int .i64 (if q < k then colSum (sl.take (j + 1)) q else colSum (sl.take j) q))) (fun i _ => m - (intOf i).toNat)
      case atStart => exact ⟨0, by omega, rfl, Mod.refl _ _, Hout.out.congr fun i hi => by rw [if_neg (by omega)]⟩
      case round =>
        obtain ⟨k, hk, rfl, hmod2, hout2⟩ := hrel
        have d0 : wr.cell? ⟨w.heap.size, 0, Option.none⟩ = some (.int .i64 m) := hmod2.cell b0 (by simp)
        by_cases hkm : k < m
        · have d1 : wr.cell? ⟨w.heap.size, 1, Option.none⟩ = some (.slice (some ⟨b, off, Option.none⟩) n c2) := hmod2.cell b1 (by simp)
          have hlen : k < (rx sl j).length := by rw [Hrl.out]; exact hkm
          have hw := Hc2.out k hlen
          have hblt : b2 < w.heap.size := World.block_lt_of_cell? w _ hw
          have hblt2 : b < w.heap.size := World.block_lt_of_cell? w _ Hcell.out
          have r0 : wr.cell? ⟨b, off + j, Option.none⟩ = some (.slice a' m c') := hmod2.cell (Hmod.out.cell Hcell.out (fun h => h)) (by simp; omega)
          have r1 : wr.cell? ⟨b2, o2 + k, Option.none⟩ = some (.int .i64 (ix (rx sl j) k)) := hmod2.cell (Hmod.out.cell hw (fun h => h)) (by simp; omega)
          have r2 : wr.cell? ⟨w.heap.size + 1, k, Option.none⟩ = some (.int .i64 (colSum (sl.take j) k)) := by rw [hout2.cell hkm, if_neg (by omega)]
          have r3 : wr.frozen? ⟨w.heap.size + 1, k, Option.none⟩ = false := hout2.frozen k
          obtain rfl := Ha2.out (by intro e; rw [e] at hlen; simp at hlen)
          have e5 : colSum (sl.take (j + 1)) k = colSum (sl.take j) k + ix (rx sl j) k := colSum_take_succ (by rw [Hn.out]; exact hjn) k
          have bb1 := colSum_bound (Hall.out j (by omega)) k
          have bb2 := ix_bound Hv.out k
          have hll : (sl.take j).length ≤ 16 := by rw [List.length_take]; omega
          have E5 := Lib.hid e5
          clear e5 hw hlen
          generalize colSum (sl.take j) k = s at r2 bb1 E5
          generalize hxq : ix (rx sl j) k = x at r1 bb2 E5
          clear hxq
          have s0 : 0 ≤ s := bb1.1
          have s1 : s ≤ 17179869184 := by omega
          have x0 : 0 ≤ x := bb2.1
          have x1 : x ≤ 1073741824 := bb2.2
          have e6 : IntKind.i64.wrap (s + x) = s + x := IntWalk.i64_in _ (by omega)
          have q1 : (0 : Int) ≤ (k : Int) := by omega
          have q2 : (k : Int) < (m : Int) := by omega
          have q3 : (0 : Int) ≤ (j : Int) := by omega
          have q4 : (j : Int) < (n : Int) := by omega
          clear bb1 bb2 hll
          have Hmod2 := Lib.hid hmod2
          have Hout2 := Lib.hid hout2
          clear hmod2 hout2
          go_wp2
          go_region
          go_wp2
          refine ⟨⟨k + 1, by omega, by go_num, (Hmod2.out.set1 k (.int .i64 (s + x))).drew, ((Hout2.out.set k (.int .i64 (s + x))).drew).congr fun q hq => ?_⟩, by simp [intOf]; omega⟩
          by_cases hqk : q = k
          · subst hqk
            rw [if_pos rfl, if_pos (by omega), E5.out]
          · rw [if_neg hqk]
            by_cases hlt : q < k
            · rw [if_pos hlt, if_pos (by omega)]
            · rw [if_neg hlt, if_neg (by omega)]
        · obtain rfl : k = m := by omega
          have Hmod2 := Lib.hid hmod2
          have Hout2 := Lib.hid hout2
          clear hmod2 hout2
          go_wp2
          exact ⟨⟨j + 1, by omega, by go_num, Hmod.out.step Hmod2.out (fun i hi e => by omega), Hbox.out.of_block (Hmod2.out.block _ Hbox.out.lt (by omega)), Hout2.out.congr fun q hq => by rw [if_pos hq]⟩, by simp [intOf]; omega⟩
    · obtain rfl : j = n := by omega
      go_wp2
      go_ret
      refine ⟨_, rfl, Hmod.out, Ints.of_row Hout.out (Nat.le_of_eq (totalL_length _ _)) (by rw [totalL_length]; simp [maxLen]; omega) (fun k hk => ?_) (by omega)⟩
      rw [totalL_length] at hk
      rw [ix_totalL _ hk, List.take_of_length_le (Nat.le_of_eq Hn.out)]

set_option maxRecDepth 100000 in
set_option maxHeartbeats 1600000 in
theorem refClear_any (D : Nat → Prop) (m n : Nat) (sl : List (List Int)) (a2 : Option Addr) (c2 : Nat) (w : World) (hs : Mixes D w a2 sl)
    (hm1 : 1 ≤ m) (hm : m ≤ 16) (hn : sl.length = n) (hn1 : 1 ≤ n) (hn2 : n ≤ 16) (hrows : ∀ i, i < n → validL (rx sl i) m = true) :
    Calls Try.prog 20 #[.agg #[.int .i64 m, .slice a2 n c2]] w fun e w' => ∃ a' c' a3, e = .returned (.tuple #[.agg #[.int .i64 m, .slice a' n c'], .slice a3 m m]) ∧ n ≤ c' ∧ Mod NoBlock w w' ∧
      Mixes (fun b => w.heap.size ≤ b) w' a' (noughts n m) ∧ Ints (fun b => w.heap.size ≤ b) w' a3 (totalL m sl) := by
  have Hs := Lib.hid hs
  have Hn := Lib.hid hn
  have Hrows := Lib.hid hrows
  clear hs hn hrows
  go_enter Try.func20, Try.ntmps20
  go_wp2_with (go_at_call 11; refine (refNew_ok _ _ _ hn1 hn2 hm1 hm).mono ?_; rintro e w1 ⟨a1, c1, rfl, hcap1, hm1', hx1⟩)
  obtain ⟨hbs, hrb, hsz0, hm0⟩ := boxes2 w #[.int .i64 m, .slice a2 n c2] #[.int .i64 0, .slice Option.none 0 0] 28 28
  have hsz1 : w.heap.size + 2 ≤ w1.heap.size := by rw [← hsz0]; exact hm1'.size
  have hbs2 := (hbs.of_block (hm1'.block _ hbs.lt (fun h => h))).alloc (.cells #[.int .i64 m, .slice a1 n c1] 28)
  have hrb2 := (hrb.of_block (hm1'.block _ hrb.lt (fun h => h))).alloc (.cells #[.int .i64 m, .slice a1 n c1] 28)
  have hg2 := rowIs_new w1 #[.int .i64 m, .slice a1 n c1] 28
  have hm2 := (hm0.trans hm1').alloc (.cells #[.int .i64 m, .slice a1 n c1] 28)
  have hx2 := hx1.alloc (.cells #[.int .i64 m, .slice a1 n c1] 28)
  have hsz2 : (w1.alloc (.cells #[.int .i64 m, .slice a1 n c1] 28)).heap.size = w1.heap.size + 1 := by simp
  rw [hsz0] at hx2
  clear hbs hrb hm0 hm1' hx1
  generalize w1.alloc (.cells #[.int .i64 m, .slice a1 n c1] 28) = w2 at hbs2 hrb2 hg2 hm2 hx2 hsz2 ⊢
  generalize w1.heap.size = g at hsz1 hg2 hx2 hsz2 ⊢
  have b0 : w2.cell? ⟨w.heap.size, 0, Option.none⟩ = some (.int .i64 m) := hbs2.cell (by simp)
  have b1 : w2.cell? ⟨w.heap.size, 1, Option.none⟩ = some (.slice a2 n c2) := hbs2.cell (by simp)
  have g0 : w2.cell? ⟨g, 0, Option.none⟩ = some (.int .i64 m) := hg2.cell (by simp)
  have g1 : w2.cell? ⟨g, 1, Option.none⟩ = some (.slice a1 n c1) := hg2.cell (by simp)
  have n1 : g ≠ w.heap.size + 1 := by omega
  have n2 : w.heap.size + 1 ≠ g := by omega
  have hle : w.heap.size + 1 < w2.heap.size := by omega
  have hs2 := Hs.out.frame hm2
  have Hs2 := Lib.hid hs2
  have Hrb2 := Lib.hid hrb2
  have Hm2 := Lib.hid hm2
  have Hx2 := Lib.hid hx2
  clear hbs2 hrb2 hg2 hm2 hx2 hsz2 hs2 hsz0
  go_region_held3 (fun w' => w'.cell? ⟨w.heap.size, 0, Option.none⟩ = some (.int .i64 m) ∧ w'.cell? ⟨w.heap.size, 1, Option.none⟩ = some (.slice a2 n c2) ∧ w'.cell? ⟨g, 0, Option.none⟩ = some (.int .i64 m) ∧ w'.cell? ⟨g, 1, Option.none⟩ = some (.slice a1 n c1))
    (first
      | go_keep
      | (go_split_ands
         exact ⟨hm5.cell ‹_› (fun h => h), hm5.cell ‹_› (fun h => h), hm5.cell ‹_› (fun h => h), hm5.cell ‹_› (fun h => h)⟩)
      | ((try dsimp only); (repeat' apply And.intro) <;> go_keep))
    (first
      | (go_at_call 16; refine (refTotal_any D m n sl a2 c2 _ (by exact Hs2.out) hm Hn.out hn2 Hrows.out).mono ?_; rintro e w5 ⟨a5, rfl, hm5, hx5⟩
         have hrb5 := Hrb2.out.drew.of_block (hm5.block _ (by show _ < w2.heap.size; omega) (fun h => h))
         have s0 : w5.cell? ⟨w.heap.size + 1, 0, Option.none⟩ = some (.int .i64 0) := hrb5.cell (by simp)
         have s1 : w5.cell? ⟨w.heap.size + 1, 1, Option.none⟩ = some (.slice Option.none 0 0) := hrb5.cell (by simp)
         have s2 : w5.frozen? ⟨w.heap.size + 1, 0, Option.none⟩ = false := hrb5.frozen 0
         have s3 : w5.frozen? ⟨w.heap.size + 1, 1, Option.none⟩ = false := hrb5.frozen 1
         have s4 : w2.heap.size ≤ w5.heap.size := hm5.size))
  have hm25 : Mod NoBlock w2 w5 := ⟨hm5.os, hm5.tape, hm5.output, hm5.size, hm5.block⟩
  have hset : Mod (fun k => k = w.heap.size + 1) w5 ((w5.setCell ⟨w.heap.size + 1, 0, Option.none⟩ (.int .i64 m)).setCell ⟨w.heap.size + 1, 1, Option.none⟩ (.slice a1 n c1)) :=
    ((Mod.refl (fun k => k = w.heap.size + 1) w5).set1 0 _).set1 1 _
  have hm6 := (Hm2.out.trans hm25).step hset (fun i hi e => by omega)
  have hrb6 : ((w5.setCell ⟨w.heap.size + 1, 0, Option.none⟩ (.int .i64 m)).setCell ⟨w.heap.size + 1, 1, Option.none⟩ (.slice a1 n c1)).rowIs (w.heap.size + 1) 28 2 (fun i => (#[.int .i64 m, .slice a1 n c1] : Array Value).getD i undef) := by
    refine ((hrb5.set 0 _).set 1 _).congr fun i hi => ?_
    have hi2 : i < 2 := by simpa using hi
    rcases (by omega : i = 0 ∨ i = 1) with rfl | rfl <;> rfl
  have hmix := ((Hx2.out.frame hm25).mod hset (fun k _ hk e => by omega)).mono (D' := fun b => w.heap.size ≤ b) fun k _ hk => by omega
  have hx6 := (hx5.mod hset (fun k _ hk e => by have h2 : w2.heap.size ≤ k := hk
                                                omega)).mono (D' := fun b => w.heap.size ≤ b) fun k _ hk => by have h2 : w2.heap.size ≤ k := hk
                                                                                                               omega
  generalize (w5.setCell ⟨w.heap.size + 1, 0, Option.none⟩ (.int .i64 m)).setCell ⟨w.heap.size + 1, 1, Option.none⟩ (.slice a1 n c1) = w6 at hm6 hrb6 hmix hx6 hset ⊢
  clear hset hm25 hm5 hx5 hrb5 s0 s1 s2 s3
  have q0 : w6.cell? ⟨w.heap.size + 1, 0, Option.none⟩ = some (.int .i64 m) := hrb6.cell (by simp)
  have q1 : w6.cell? ⟨w.heap.size + 1, 1, Option.none⟩ = some (.slice a1 n c1) := hrb6.cell (by simp)
  have Hmix := Lib.hid hmix
  have Hx6 := Lib.hid hx6
  have Hm6 := Lib.hid hm6
  clear hmix hx6 hm6 hrb6
  go_wp2
  refine bodyPost_ret (v := .tuple #[.agg #[.int .i64 m, .slice a1 n c1], .slice a5 m m]) (by simp [results, Try.results20, go_sem, q0, q1]) rfl ⟨a1, c1, a5, rfl, hcap1, Hm6.out, Hmix.out, Hx6.out⟩

end Go.Proofs.Ytinoekldcchfhaa
