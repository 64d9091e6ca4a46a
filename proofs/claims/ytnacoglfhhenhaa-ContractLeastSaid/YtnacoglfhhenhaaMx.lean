/-
  match: the reference's Solve, whatever the problem without fault.
-/
import Derived.Test.YtnacoglfhhenhaaMw
set_option linter.unusedVariables false
set_option linter.unusedSimpArgs false
namespace Go.Proofs.Ytnacoglfhhenhaa
open Go.RowKit

theorem least_none (a : Option Addr) (c : Nat) (w : World) :
    Calls Try.prog 52 #[.slice a 0 c] w fun e w' => e = .returned (.tuple #[.int .i64 0, .slice none 0 0, .slice none 0 0]) ∧ w = w' := by
  go_enter Try.func52, Try.ntmps52
  go_wp2_with fail
  go_ret3
  exact ⟨rfl, rfl⟩

theorem first_zero (T : Nat → Nat → Int) : First T 0 0 0 (fun _ => 0) :=
  ⟨⟨fun r hr => absurd hr (Nat.not_lt_zero r), fun r r' hr => absurd hr (Nat.not_lt_zero r)⟩, rfl, fun a _ => Int.le_refl _, fun i hi => absurd hi (Nat.not_lt_zero i)⟩

set_option maxRecDepth 100000 in
set_option maxHeartbeats 6400000 in
theorem refSolve_zero {D E : Nat → Prop} {w : World} {a b : Option Addr} {c d k : Nat} {C : List (List Int)} {sk : List Int} (h : Mixes D w a C) (hs : Ints E w b sk) (hok : chkM C sk = 0) (hn : C.length = 0) (hk : (rx C 0).length = k) :
    Calls Try.prog 36 #[.slice a 0 c, .slice b 0 d] w (RSolveRes C sk 0 k w) := by
  have hpr := probOk hok
  rw [hn, hk] at hpr
  obtain rfl := hpr.k0 rfl
  have m0 := (Mod.refl NoBlock w).alloc (.cells #[.slice none 0 0, .int .i64 0, .slice none 0 0, .slice none 0 0] 61)
  have hb0 := rowIs_new w #[.slice none 0 0, .int .i64 0, .slice none 0 0, .slice none 0 0] 61
  have Hb0 := Lib.hid hb0
  have M0 := Lib.hid m0
  have HC0 := Lib.hid h
  have HS0 := Lib.hid hs
  have HP := Lib.hid hpr
  have hch := refCheck_any (c := c) (d := d) (h.frame m0) (hs.frame m0)
  rw [hn, hpr.len, hok] at hch
  have Hch := Lib.hid hch
  clear h hs m0 hb0 hok hpr hn hk hch
  go_enter Try.func36, Try.ntmps36
  go_upto_region 1 with fail
  generalize w.alloc (.cells #[.slice none 0 0, .int .i64 0, .slice none 0 0, .slice none 0 0] 61) = w0 at M0 Hb0 Hch ⊢
  obtain ⟨S0, hS0⟩ : ∃ S0, w.heap.size = S0 := ⟨_, rfl⟩
  rw [hS0] at Hb0 ⊢
  have HS9 := Lib.hid hS0
  clear hS0
  go_upto_region 4 with (go_at_call 50; refine Hch.out.mono ?_; rintro e w1 ⟨rfl, hd1⟩)
  have md := (Mod.refl NoBlock w0).drawn hd1
  have M1 := Lib.hid (M0.out.trans md)
  have Hb1 := Lib.hid (Hb0.out.of_block (md.block _ Hb0.out.lt id))
  clear hd1 md Hch M0 Hb0
  have Htab := Lib.hid (refTable_any (c := c) (d := d) (HC0.out.frame M1.out) (HS0.out.frame M1.out) HP.out)
  go_upto_region 5 with (go_at_call 51; refine Htab.out.mono ?_; rintro e w2 ⟨a1, c1, ra, ro, rc, rfl, hgt⟩)
  have M2 := Lib.hid (M1.out.trans hgt.mod)
  have Hb2 := Lib.hid (Hb1.out.of_block (hgt.mod.block _ Hb1.out.lt id))
  clear hgt Htab M1 Hb1
  go_upto_region 6 with (go_at_call 52; refine (least_none _ _ _).mono ?_; rintro e w6 ⟨rfl, rfl⟩)
  have m7 := (Mod.refl NoBlock w2).alloc (.cells #[.slice none 0 0, .int .i64 0, .slice none 0 0, .slice none 0 0] 61)
  have HB := Lib.hid (rowIs_new w2 #[.slice none 0 0, .int .i64 0, .slice none 0 0, .slice none 0 0] 61)
  have M7 := Lib.hid (M2.out.trans m7)
  have Hb7 := Lib.hid (Hb2.out.of_block (m7.block _ Hb2.out.lt id))
  have hws : S0 < w2.heap.size := Hb2.out.lt
  clear m7 M2 Hb2
  go_upto_region 7 with fail
  generalize w2.alloc (.cells #[.slice none 0 0, .int .i64 0, .slice none 0 0, .slice none 0 0] 61) = w8 at HB M7 Hb7 ⊢
  generalize w2.heap.size = gm at HB hws ⊢
  go_wp2_with fail
  go_loopw [7, 13] (fun wd i wr => wd = .slice a1 0 c1 ∧ i = .int .i64 0 ∧ Hid (wr = w8)) (fun _ _ _ => 0)
  case atStart => exact ⟨rfl, rfl, Lib.hid rfl⟩
  case round =>
    obtain ⟨rfl, rfl, ⟨rfl⟩⟩ := hrel
    have b0 : w8.cell? ⟨gm, 0, none⟩ = some (.slice none 0 0) := HB.out.cell (i := 0) (by decide)
    have b1' : w8.cell? ⟨gm, 1, none⟩ = some (.int .i64 0) := HB.out.cell (i := 1) (by decide)
    have b2 : w8.cell? ⟨gm, 2, none⟩ = some (.slice none 0 0) := HB.out.cell (i := 2) (by decide)
    have b3 : w8.cell? ⟨gm, 3, none⟩ = some (.slice none 0 0) := HB.out.cell (i := 3) (by decide)
    have f0 := Hb7.out.frozen 0
    have f1 := Hb7.out.frozen 1
    have f2 := Hb7.out.frozen 2
    have f3 := Hb7.out.frozen 3
    have c0 : w8.cell? ⟨S0, 0, none⟩ = some (.slice none 0 0) := Hb7.out.cell (i := 0) (by decide)
    have c1' : w8.cell? ⟨S0, 1, none⟩ = some (.int .i64 0) := Hb7.out.cell (i := 1) (by decide)
    have c2 : w8.cell? ⟨S0, 2, none⟩ = some (.slice none 0 0) := Hb7.out.cell (i := 2) (by decide)
    have c3 : w8.cell? ⟨S0, 3, none⟩ = some (.slice none 0 0) := Hb7.out.cell (i := 3) (by decide)
    go_wp2_with fail
    have hr := put4 Hb7.out (.slice none 0 0) (.int .i64 0) (.slice none 0 0) (.slice none 0 0)
    have hm := mod4 M7.out (S := S0) (.inr (by have := HS9.out; omega)) (.slice none 0 0) (.int .i64 0) (.slice none 0 0) (.slice none 0 0)
    generalize ((((w8.setCell ⟨S0, 0, none⟩ (.slice none 0 0)).setCell ⟨S0, 1, none⟩ (.int .i64 0)).setCell ⟨S0, 2, none⟩ (.slice none 0 0)).setCell ⟨S0, 3, none⟩ (.slice none 0 0)) = w9 at hr hm ⊢
    have t0 : w9.cell? ⟨S0, 0, none⟩ = some (.slice none 0 0) := hr.cell (i := 0) (by decide)
    have t1 : w9.cell? ⟨S0, 1, none⟩ = some (.int .i64 0) := hr.cell (i := 1) (by decide)
    have t2 : w9.cell? ⟨S0, 2, none⟩ = some (.slice none 0 0) := hr.cell (i := 2) (by decide)
    have t3 : w9.cell? ⟨S0, 3, none⟩ = some (.slice none 0 0) := hr.cell (i := 3) (by decide)
    refine bodyPost_ret (v := .tuple #[.agg #[.slice none 0 0, .int .i64 0, .slice none 0 0, .slice none 0 0], .int .i64 0]) (by simp [results, Try.results36, go_sem, t0, t1, t2, t3]) rfl
      ⟨0, fun _ => 0, none, 0, none, 0, 0, none, 0, 0, rfl, hm, first_zero _, Ints.nil _ _ _⟩

theorem refSolve_any {D E : Nat → Prop} {w : World} {a b : Option Addr} {c d n k : Nat} {C : List (List Int)} {sk : List Int} (h : Mixes D w a C) (hs : Ints E w b sk) (hok : chkM C sk = 0) (hn : C.length = n) (hk : (rx C 0).length = k) :
    Calls Try.prog 36 #[.slice a n c, .slice b n d] w (RSolveRes C sk n k w) := by
  by_cases h0 : 0 < n
  · exact refSolve_ok h hs hok hn hk h0
  · obtain rfl : n = 0 := by omega
    exact refSolve_zero h hs hok hn hk

theorem First.col {T : Nat → Nat → Int} {n k : Nat} {t t' : Int} {wf wf' : Nat → Nat} (h : First T n k t wf) (h' : First T n k t' wf') : t = t' ∧ rowI n (colZ k wf) = rowI n (colZ k wf') := by
  obtain ⟨h1, h2⟩ := h.unique h'
  refine ⟨h1, ?_⟩
  unfold rowI
  refine List.map_congr_left fun i hi => ?_
  unfold colZ
  rw [h2 i (List.mem_range.1 hi)]

end Go.Proofs.Ytnacoglfhhenhaa
