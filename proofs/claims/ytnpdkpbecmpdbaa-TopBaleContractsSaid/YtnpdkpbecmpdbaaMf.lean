/-
  match: the code's Solve.
-/
import Derived.Test.YtnpdkpbecmpdbaaMb
import Derived.Test.YtnpdkpbecmpdbaaHw
import Derived.WalkMore
import Derived.Deep.RegionLaw
import Derived.Deep.RegionHeld3
set_option linter.unusedVariables false
set_option linter.unusedSimpArgs false
namespace Go.Proofs.Ytnpdkpbecmpdbaa
open Go.RowKit

/-- The wide table of a problem. -/
def tabM (C : List (List Int)) (sk : List Int) (k : Nat) : Nat → Nat → Int := wideT (fun i j => ix (rx C i) j) (ix sk) k
/-- The column of a row: -1 for its own one. -/
def colZ (k : Nat) (wf : Nat → Nat) (i : Nat) : Int := if wf i < k then (wf i : Int) else -1

def SolveRes (C : List (List Int)) (sk : List Int) (n k : Nat) (w : World) (e : Ending) (w' : World) : Prop :=
  ∃ (t : Int) (wf : Nat → Nat) (u v : Nat → Int) (aC : Option Addr) (cC : Nat) (aU : Option Addr) (cU : Nat) (aV : Option Addr) (cV : Nat),
    e = .returned (.tuple #[.agg #[.slice aC n cC, .int .i64 t, .slice aU n cU, .slice aV k cV], .int .i64 0]) ∧ Mod NoBlock w w' ∧ First (tabM C sk k) n k t wf ∧ PotOk (tabM C sk k) n (k + n) u v t ∧
    Ints (fun b => w.heap.size ≤ b) w' aC (rowI n (colZ k wf)) ∧ Ints (fun b => w.heap.size ≤ b) w' aU (rowI n fun i => u i + v (k + i)) ∧ Ints (fun b => w.heap.size ≤ b) w' aV (rowI k v)

theorem cell_far {w : World} {p a : Addr} {v x : Value} (h : w.cell? a = some x) (hne : p.block ≠ a.block) : (w.setCell p v).cell? a = some x := by rw [World.cell?_setCell_far _ _ _ _ hne]; exact h
theorem put4 {w : World} {S : Nat} {t : TypeId} {f : Nat → Value} (h : w.rowIs S t 4 f) (x0 x1 x2 x3 : Value) :
    ((((w.setCell ⟨S, 0, none⟩ x0).setCell ⟨S, 1, none⟩ x1).setCell ⟨S, 2, none⟩ x2).setCell ⟨S, 3, none⟩ x3).rowIs S t 4 (fun i => (#[x0, x1, x2, x3] : Array Value).getD i undef) := by
  refine ((((h.set 0 x0).set 1 x1).set 2 x2).set 3 x3).congr fun i hi => ?_
  rcases (by omega : i = 0 ∨ i = 1 ∨ i = 2 ∨ i = 3) with rfl | rfl | rfl | rfl <;> rfl
theorem mod4 {D : Nat → Prop} {a w : World} {S : Nat} (h : Mod D a w) (hS : D S ∨ a.heap.size ≤ S) (x0 x1 x2 x3 : Value) : Mod D a ((((w.setCell ⟨S, 0, none⟩ x0).setCell ⟨S, 1, none⟩ x1).setCell ⟨S, 2, none⟩ x2).setCell ⟨S, 3, none⟩ x3) :=
  (((h.setCell (p := ⟨S, 0, none⟩) hS x0).setCell (p := ⟨S, 1, none⟩) hS x1).setCell (p := ⟨S, 2, none⟩) hS x2).setCell (p := ⟨S, 3, none⟩) hS x3

set_option maxRecDepth 100000 in
set_option maxHeartbeats 6400000 in
theorem solve_bad {D E : Nat → Prop} {w : World} {a b : Option Addr} {c d : Nat} {C : List (List Int)} {sk : List Int} (h : Mixes D w a C) (hs : Ints E w b sk) (hbad : chkM C sk ≠ 0) :
    Calls Try.prog 39 #[.slice a C.length c, .slice b sk.length d] w fun e w' => e = .returned (.tuple #[.agg #[.slice none 0 0, .int .i64 0, .slice none 0 0, .slice none 0 0], .int .i64 (chkM C sk)]) ∧ Mod NoBlock w w' := by
  have m0 := (Mod.refl NoBlock w).alloc (.cells #[.slice none 0 0, .int .i64 0, .slice none 0 0, .slice none 0 0] 90)
  have hb0 := rowIs_new w #[.slice none 0 0, .int .i64 0, .slice none 0 0, .slice none 0 0] 90
  have Hb0 := Lib.hid hb0
  have M0 := Lib.hid m0
  have HC := Lib.hid (h.frame m0)
  have HS := Lib.hid (hs.frame m0)
  have hbd : (chkM C sk != 0) = true := bne_iff_ne.2 hbad
  clear h hs hbad m0 hb0
  go_enter Try.func39, Try.ntmps39
  go_wp2
  go_step3
  go_wp2_with fail
  generalize w.alloc (.cells #[.slice none 0 0, .int .i64 0, .slice none 0 0, .slice none 0 0] 90) = w0 at HC HS M0 Hb0 ⊢
  refine (check_any (c := c) (d := d) HC.out HS.out).mono ?_
  rintro e w1 ⟨rfl, rfl⟩
  have f0 := Hb0.out.frozen 0
  have f1 := Hb0.out.frozen 1
  have f2 := Hb0.out.frozen 2
  have f3 := Hb0.out.frozen 3
  have c0 : w0.cell? ⟨w.heap.size, 0, none⟩ = some (.slice none 0 0) := Hb0.out.cell (i := 0) (by decide)
  have c1 : w0.cell? ⟨w.heap.size, 1, none⟩ = some (.int .i64 0) := Hb0.out.cell (i := 1) (by decide)
  have c2 : w0.cell? ⟨w.heap.size, 2, none⟩ = some (.slice none 0 0) := Hb0.out.cell (i := 2) (by decide)
  have c3 : w0.cell? ⟨w.heap.size, 3, none⟩ = some (.slice none 0 0) := Hb0.out.cell (i := 3) (by decide)
  go_wp2
  try rw [Exit.noGoto_ret]
  have hr := put4 Hb0.out (.slice none 0 0) (.int .i64 0) (.slice none 0 0) (.slice none 0 0)
  have hm := mod4 M0.out (S := w.heap.size) (.inr (Nat.le_refl _)) (.slice none 0 0) (.int .i64 0) (.slice none 0 0) (.slice none 0 0)
  generalize ((((w0.setCell ⟨w.heap.size, 0, none⟩ (.slice none 0 0)).setCell ⟨w.heap.size, 1, none⟩ (.int .i64 0)).setCell ⟨w.heap.size, 2, none⟩ (.slice none 0 0)).setCell ⟨w.heap.size, 3, none⟩ (.slice none 0 0)) = w2 at hr hm ⊢
  have t0 : w2.cell? ⟨w.heap.size, 0, none⟩ = some (.slice none 0 0) := hr.cell (i := 0) (by decide)
  have t1 : w2.cell? ⟨w.heap.size, 1, none⟩ = some (.int .i64 0) := hr.cell (i := 1) (by decide)
  have t2 : w2.cell? ⟨w.heap.size, 2, none⟩ = some (.slice none 0 0) := hr.cell (i := 2) (by decide)
  have t3 : w2.cell? ⟨w.heap.size, 3, none⟩ = some (.slice none 0 0) := hr.cell (i := 3) (by decide)
  refine bodyPost_ret (v := .tuple #[.agg #[.slice none 0 0, .int .i64 0, .slice none 0 0, .slice none 0 0], .int .i64 (chkM C sk)]) (by simp [results, Try.results39, go_sem, t0, t1, t2, t3]) rfl ⟨rfl, hm⟩

set_option maxRecDepth 100000 in
set_option maxHeartbeats 40000000 in
theorem solve_ok {D E : Nat → Prop} {w : World} {a b : Option Addr} {c d n k : Nat} {C : List (List Int)} {sk : List Int} (h : Mixes D w a C) (hs : Ints E w b sk) (hok : chkM C sk = 0) (hn : C.length = n) (hk : (rx C 0).length = k) :
    Calls Try.prog 39 #[.slice a n c, .slice b n d] w (SolveRes C sk n k w) := by
  have hpr := probOk hok
  rw [hn, hk] at hpr
  have m0 := (Mod.refl NoBlock w).alloc (.cells #[.slice none 0 0, .int .i64 0, .slice none 0 0, .slice none 0 0] 90)
  have hb0 := rowIs_new w #[.slice none 0 0, .int .i64 0, .slice none 0 0, .slice none 0 0] 90
  have Hb0 := Lib.hid hb0
  have M0 := Lib.hid m0
  have HC0 := Lib.hid h
  have HC := Lib.hid (h.frame m0)
  have HS := Lib.hid (hs.frame m0)
  have HP := Lib.hid hpr
  have HOk := Lib.hid hok
  have Hn := Lib.hid hn
  have n24 := hpr.n24
  have k24 := hpr.k24
  have n24' : (n : Int) ≤ 24 := by omega
  have k24' : (k : Int) ≤ 24 := by omega
  have Hch := Lib.hid (check_any (c := c) (d := d) (h.frame m0) (hs.frame m0))
  rw [hn, hpr.len] at Hch
  clear h hs m0 hb0 hok hpr hn hk
  go_enter Try.func39, Try.ntmps39
  go_wp2
  go_step3
  go_wp2_with fail
  generalize w.alloc (.cells #[.slice none 0 0, .int .i64 0, .slice none 0 0, .slice none 0 0] 90) = w0 at HC HS M0 Hb0 Hch ⊢
  refine Hch.out.mono ?_
  rintro e w1 ⟨rfl, rfl⟩
  rw [HOk.out]
  clear Hch
  have Hcol := Lib.hid (columns_any (c := c) HC.out HP.out.rect HP.out.k0)
  have Hwid := Lib.hid (widened_any (c := c) (d := d) HC.out HP.out.rect HS.out HP.out.len HP.out.k0 (by omega) (by omega))
  go_wp2_with (first
    | (go_at_call 55; refine Hcol.out.mono ?_; rintro e w5 ⟨rfl, rfl⟩)
    | (go_at_call 56; refine Hwid.out.mono ?_; rintro e w5 ⟨gw, ra, ro, rc, rfl, hgr⟩))
  have hK0 : 0 < n → 0 < k + n := fun h => by omega
  have hw5 : Tab (fun b => b < w5.heap.size) w5 gw 0 n (k + n) (tabM C sk k) ra ro rc := hgr.tab (fun _ h => h)
  have M5 := Lib.hid (M0.out.trans hgr.mod)
  have N5 := Lib.hid hgr.mod
  have HW := Lib.hid (wide_ok HP.out)
  have HT5 := Lib.hid hw5
  have Hok := Lib.hid (show TabOk (tabM C sk k) n (k + n) from HW.out.le)
  have Hslv := Lib.hid (solve_any (ca := n) (c := fun r j => tabM C sk k (r - 1) (j - 1)) hw5 (fun _ _ => rfl) Hok.out.costOk (by omega) (by omega) (fun h => by have := HP.out.k0 h; omega))
  clear hgr hw5 Hcol Hwid
  refine Hslv.out.mono ?_
  rintro e w6 ⟨bu, bv, br, bf, g, n1, m, u, v, row, fr, rfl, m3, m4, m1, m2, hd, hbv, hss⟩
  have M6 := Lib.hid (M5.out.trans hss.mod)
  have N6 := Lib.hid (N5.out.trans hss.mod)
  have HT6 := Lib.hid ((HT5.out.frame hss.mod (fun _ _ => id)).congr (fun _ _ _ _ => rfl) (fun b hb => Nat.lt_of_lt_of_le hb hss.mod.size))
  have HL := Lib.hid hd.least
  have HBV := Lib.hid hbv
  have HSS := Lib.hid hss
  have Htot := Lib.hid (total_any (ca := n) HT6.out Hok.out (by omega) (by omega) (fun h => by have := HP.out.k0 h; omega))
  clear hd hbv hss Hslv
  go_wp2_with (go_at_call 58; refine Htot.out.mono ?_; rintro e w7 ⟨t, rfl, ht, hm7⟩)
  have M7 := Lib.hid (M6.out.trans hm7)
  have HbS := Lib.hid (Hb0.out.of_block ((N6.out.trans hm7).block _ Hb0.out.lt id))
  clear N5 N6
  have HT7 := Lib.hid ((HT6.out.frame hm7 (fun _ _ => id)).congr (fun _ _ _ _ => rfl) (fun b hb => Nat.lt_of_lt_of_le hb hm7.size))
  have HB7 := Lib.hid (HSS.out.box.of_block (hm7.block _ HSS.out.box.lt id))
  have HR7 := Lib.hid (HSS.out.r4.mod hm7 (fun _ _ => id))
  obtain ⟨t', ht1, ht2, ht3⟩ := HL.out
  obtain rfl := ht.unique ht1
  have HLe := Lib.hid ht
  have HPo := Lib.hid ht2
  have HC7 := Lib.hid (HC0.out.frame M7.out)
  obtain ⟨UU, hUU⟩ : ∃ UU : Nat → Int, UU = fun i => u (i + 1) + v (k + i + 1) := ⟨_, rfl⟩
  obtain ⟨VV, hVV⟩ : ∃ VV : Nat → Int, VV = fun j => v (j + 1) := ⟨_, rfl⟩
  have HU := Lib.hid (fun i => congrFun hUU i)
  have HV := Lib.hid (fun i => congrFun hVV i)
  have hms : MS w7 (w7.alloc (.cells #[.slice none 0 0, .int .i64 t, .slice none 0 0, .slice none 0 0] 90)) none 0 0 t none 0 0 none 0 0 (fun _ => 0) UU VV :=
    ⟨(Mod.refl _ w7).alloc _, rowIs_new w7 _ _, Own.nil _ _ _, Own.nil _ _ _, Own.nil _ _ _, Apart.nil _, Apart.nil _, Apart.nil _⟩
  have H0 := Lib.hid hms
  clear hms hUU hVV ht ht1 ht2 ht3 HL HT5 HT6 M5 M6 Htot hm7
  generalize w7.alloc (.cells #[.slice none 0 0, .int .i64 t, .slice none 0 0, .slice none 0 0] 90) = w8 at H0 ⊢
  have Hel := Lib.hid elemInt1
  go_loopw [35] (fun i wr => ∃ (q : Nat) (aU : Option Addr) (cU : Nat), q ≤ n ∧ i = .int .i64 q ∧ MS w7 wr none 0 0 t aU cU q none 0 0 (fun _ => 0) UU VV) (fun i _ => n - (intOf i).toNat)
  case atStart => exact ⟨0, none, 0, by omega, rfl, H0.out⟩
  case round =>
    clear H0
    clear w8
    obtain ⟨q, aU, cU, hq, rfl, hms⟩ := hrel
    have H := Lib.hid hms
    clear hms
    obtain ⟨wo, rfl⟩ : ∃ wo : World, wo = wr := ⟨_, rfl⟩
    by_cases hlt : q < n
    · have q1 : (q : Int) < (n : Int) := by omega
      have q2 : (q : Int) + 1 < (n1 : Int) := by omega
      have q3 : (k : Int) + (q : Int) + 1 < (m : Int) := by omega
      have b2 := H.out.b2
      have f2 := H.out.box.frozen 2
      have e1 : wo.cell? ⟨g, 1, none⟩ = some (.slice (some ⟨bu, 0, none⟩) n1 n1) := H.out.mod.cell (HB7.out.cell (i := 1) (by omega)) id
      have e2 : wo.cell? ⟨g, 2, none⟩ = some (.slice (some ⟨bv, 0, none⟩) m m) := H.out.mod.cell (HB7.out.cell (i := 2) (by omega)) id
      have p1 : (0 : Int) ≤ (q : Int) + 1 := by omega
      have p3 : (0 : Int) ≤ (k : Int) + (q : Int) + 1 := by omega
      have p4 : ((k : Int) + (q : Int) + 1).toNat = k + q + 1 := by omega
      have w1 : IntKind.i64.wrap ((q : Int) + 1) = (q : Int) + 1 := IntWalk.i64_in _ (by omega)
      have w2 : IntKind.i64.wrap ((k : Int) + (q : Int)) = (k : Int) + (q : Int) := IntWalk.i64_in _ (by omega)
      have w3 : IntKind.i64.wrap ((k : Int) + (q : Int) + 1) = (k : Int) + (q : Int) + 1 := IntWalk.i64_in _ (by omega)
      have d1 := H.out.mod.cell (HR7.out.uAt (k := q + 1) (by omega)) id
      have d2 := H.out.mod.cell (HR7.out.vAt (k := k + q + 1) (by omega)) id
      have Hv := Lib.hid (HU.out q)
      obtain ⟨y0, y1⟩ := HBV.out.1 (q + 1) (by omega) (by omega)
      obtain ⟨z0, z1⟩ := HBV.out.2 (k + q + 1) (by omega) (by omega)
      have Hd1 := Lib.hid (HR7.out.uAt (k := q + 1) (by omega))
      have Hd2 := Lib.hid (HR7.out.vAt (k := k + q + 1) (by omega))
      generalize u (q + 1) = y at d1 Hv y0 y1 Hd1
      generalize v (k + q + 1) = z at d2 Hv z0 z1 Hd2
      simp only [far] at y1 z0
      have e6 : IntKind.i64.wrap (y + z) = y + z := IntWalk.i64_in _ (by omega)
      have Hl := Lib.hid (rowV_length q UU)
      have hsz := H.out.lt
      go_upto_region 10 with fail
      go_region_law (refine step_append1 (vs := rowV q UU) (by rfl) (.tmp 39) (.tmp 59) _ (by rfl) Hel.out q 1 (q + 1) 1 [.int .i64 (y + z)] (by rfl) (by rfl) Hl.out.symm (by simp) (by omega) (H.out.us.alloc _) (Src.one _ _ _) (by simp [Value.oneCell']) (by simp only [maxLen]; omega) (by omega) (by simp; omega) ?_
                     intro a4 c4 w4 hown4 hgrow4 hat4
                     rw [← Hv.out] at hown4
                     have H4 := Lib.hid (H.out.drew.appendU hown4 hgrow4 hat4)
                     have hk4 := H.out.drew.keep H.out.drew.us hgrow4
                     have st1 : w4.cell? ⟨w7.heap.size, 2, none⟩ = some (.slice aU q cU) := hk4.cell (i := 2) (by omega)
                     have st2 : w4.frozen? ⟨w7.heap.size, 2, none⟩ = false := hk4.frozen 2
                     clear hown4 hgrow4 hat4 hk4)
      all_goals (go_wp2_with fail; exact ⟨⟨q + 1, a4, c4, by omega, by go_num, H4.out⟩, by simp [intOf]; omega⟩)
    · obtain rfl : n = q := by omega
      clear hlt hq
      go_wp2_with fail
      go_loopw [64] (fun i wr => ∃ (j : Nat) (aV : Option Addr) (cV : Nat), j ≤ k ∧ i = .int .i64 j ∧ MS w7 wr none 0 0 t aU cU n aV cV j (fun _ => 0) UU VV) (fun i _ => k - (intOf i).toNat)
      case atStart => exact ⟨0, none, 0, by omega, rfl, H.out⟩
      case round =>
        clear H
        clear wo
        obtain ⟨j, aV, cV, hj, rfl, hms⟩ := hrel
        have H := Lib.hid hms
        clear hms
        obtain ⟨wo, rfl⟩ : ∃ wo : World, wo = wr := ⟨_, rfl⟩
        by_cases hlt : j < k
        · have q1 : (j : Int) < (k : Int) := by omega
          have q2 : (j : Int) + 1 < (m : Int) := by omega
          have b3 := H.out.b3
          have f3 := H.out.box.frozen 3
          have e2 : wo.cell? ⟨g, 2, none⟩ = some (.slice (some ⟨bv, 0, none⟩) m m) := H.out.mod.cell (HB7.out.cell (i := 2) (by omega)) id
          have p1 : (0 : Int) ≤ (j : Int) + 1 := by omega
          have w1 : IntKind.i64.wrap ((j : Int) + 1) = (j : Int) + 1 := IntWalk.i64_in _ (by omega)
          have d2 := H.out.mod.cell (HR7.out.vAt (k := j + 1) (by omega)) id
          have Hv := Lib.hid (HV.out j)
          generalize v (j + 1) = z at d2 Hv
          have Hl := Lib.hid (rowV_length j VV)
          have hsz := H.out.lt
          go_upto_region 15 with fail
          go_region_law (refine step_append1 (vs := rowV j VV) (by rfl) (.tmp 68) (.tmp 77) _ (by rfl) Hel.out j 1 (j + 1) 1 [.int .i64 z] (by rfl) (by rfl) Hl.out.symm (by simp) (by omega) (H.out.vs.alloc _) (Src.one _ _ _) (by simp [Value.oneCell']) (by simp only [maxLen]; omega) (by omega) (by simp; omega) ?_
                         intro a4 c4 w4 hown4 hgrow4 hat4
                         rw [← Hv.out] at hown4
                         have H4 := Lib.hid (H.out.drew.appendV hown4 hgrow4 hat4)
                         have hk4 := H.out.drew.keep H.out.drew.vs hgrow4
                         have st1 : w4.cell? ⟨w7.heap.size, 3, none⟩ = some (.slice aV j cV) := hk4.cell (i := 3) (by omega)
                         have st2 : w4.frozen? ⟨w7.heap.size, 3, none⟩ = false := hk4.frozen 3
                         clear hown4 hgrow4 hat4 hk4)
          all_goals (go_wp2_with fail; exact ⟨⟨j + 1, a4, c4, by omega, by go_num, H4.out⟩, by simp [intOf]; omega⟩)
        · obtain rfl : k = j := by omega
          clear hlt hj
          go_wp2_with fail
          go_step3
          go_wp2_with fail
          have HPo' := Lib.hid (show PotOk (tabM C sk k) n (k + n) (fun r => u (r + 1)) (fun j => v (j + 1)) t from HPo.out)
          have HT8 : Hid (Tab (fun b => b < wo.heap.size ∧ b ≠ w7.heap.size ∧ some b ≠ blockOf (none : Option Addr)) wo gw 0 n (k + n) (restr (tabM C sk k) (fun _ => 0) 0) ra ro rc) := Lib.hid
            ((HT7.out.frame H.out.mod (fun _ _ => id)).congr (fun r _ j _ => (restr_zero _ _ r j).symm) (fun b hb => ⟨by have := H.out.mod.size; omega, by omega, by intro e; cases e⟩))
          have Hrow : Hid (∀ q, q < n → ∃ b1 o1 a2 c2 b3 o3, a = some ⟨b1, o1, none⟩ ∧ w7.cell? ⟨b1, o1 + q, none⟩ = some (.slice a2 k c2) ∧ (0 < k → a2 = some ⟨b3, o3, none⟩) ∧ ∀ j, j < k → w7.cell? ⟨b3, o3 + j, none⟩ = some (.int .i64 (ix (rx C q) j))) := Lib.hid fun q hq => by
            obtain ⟨b1, o1, a2, c2, e1, _, hc, hI⟩ := HC7.out.row (k := q) (by rw [Hn.out]; exact hq)
            rw [HP.out.rect.2 q hq] at hc
            by_cases hk0 : 0 < k
            · obtain ⟨_, b3, o3, ha3, hc3⟩ := hI.open
              exact ⟨b1, o1, a2, c2, b3, o3, e1, hc, fun _ => ha3 (by intro e; have h9 := HP.out.rect.2 q hq; rw [e] at h9; simp at h9; omega), fun j hj => hc3 j (by rw [HP.out.rect.2 q hq]; exact hj)⟩
            · exact ⟨b1, o1, a2, c2, 0, 0, e1, hc, fun h => absurd h hk0, fun j hj => absurd hj (by omega)⟩
          clear HB7 HR7 HSS M0 HC HS HC7 HT7
          go_loopg [8, 83] n (fun gk wd i wr => ∃ (q : Nat) (wf : Nat → Nat) (aC : Option Addr) (cC gz cz : Nat) (ra ro rc : Nat → Nat), q + gk = n ∧ i = .int .i64 q ∧ wd = .slice (some ⟨gz, 0, none⟩) n cz ∧ Upto (tabM C sk k) n k t wf q ∧
            MS w7 wr aC cC q t aU cU n aV cV k (colZ k wf) UU VV ∧ Tab (fun b => b < wr.heap.size ∧ b ≠ w7.heap.size ∧ some b ≠ blockOf aC) wr gz 0 n (k + n) (restr (tabM C sk k) wf q) ra ro rc)
          case atStart => exact ⟨0, fun _ => 0, none, 0, gw, n, ra, ro, rc, by omega, rfl, rfl, Upto.zero HLe.out _, H.out.congrC (fun j hj => absurd hj (Nat.not_lt_zero j)), HT8.out⟩
          case round =>
            clear H HT8
            clear wo
            obtain ⟨q, wf, aC, cC, gz, cz, ra, ro, rc, hqk, rfl, rfl, hup, hms, htab⟩ := hrel
            have H := Lib.hid hms
            have HT := Lib.hid htab
            have HUp := Lib.hid hup
            have Hqk := Lib.hid hqk
            have hq9 : q ≤ n := by omega
            clear hms htab hup hqk
            obtain ⟨wo, rfl⟩ : ∃ wo : World, wo = wr := ⟨_, rfl⟩
            by_cases hlt : q < n
            · have q1 : (q : Int) < (n : Int) := by omega
              have HRq := Lib.hid (Hrow.out q hlt)
              go_wp2_with fail
              go_loopg [8, 87] k (fun gk wd i wr => ∃ j : Nat, j + gk = k ∧ i = .int .i64 j ∧ wd = .slice (some ⟨gz, 0, none⟩) n cz ∧ (∀ j', j' < j → ¬ Good (tabM C sk k) n k t (upd wf q j') (q + 1)) ∧
                MS w7 wr aC cC q t aU cU n aV cV k (colZ k wf) UU VV ∧ Tab (fun b => b < wr.heap.size ∧ b ≠ w7.heap.size ∧ some b ≠ blockOf aC) wr gz 0 n (k + n) (restr (tabM C sk k) wf q) ra ro rc)
              case atStart => exact ⟨0, by omega, rfl, rfl, fun j' hj => absurd hj (Nat.not_lt_zero j'), H.out, HT.out⟩
              case round =>
                clear H HT
                clear wo
                obtain ⟨j, hjk, rfl, rfl, hno, hms, htab⟩ := hrel
                have H := Lib.hid hms
                have HT := Lib.hid htab
                have HNo := Lib.hid hno
                have Hjk := Lib.hid hjk
                have hj9 : j ≤ k := by omega
                clear hms htab hno hjk
                obtain ⟨wo, rfl⟩ : ∃ wo : World, wo = wr := ⟨_, rfl⟩
                by_cases hlt2 : j < k
                · have j1 : (j : Int) < (k : Int) := by omega
                  obtain ⟨b1, o1, a2, c2, b3, o3, rfl, hc1, hb3, hcc⟩ := HRq.out
                  obtain rfl := hb3 (by omega)
                  have d1 := H.out.mod.cell hc1 id
                  have d2 := H.out.mod.cell (hcc j hlt2) id
                  obtain ⟨gU, rfl, _, _⟩ := H.out.us.addr (by omega)
                  obtain ⟨gV, rfl, _, _⟩ := H.out.vs.addr (by omega)
                  have d3 := (H.out.us.cellAt hlt).1
                  have d4 := (H.out.vs.cellAt hlt2).1
                  have b2 := H.out.b2
                  have b3' := H.out.b3
                  have Hu := Lib.hid (HU.out q)
                  have Hv := Lib.hid (HV.out j)
                  have hx := HP.out.cost q hlt j hlt2
                  obtain ⟨x, hxe⟩ : ∃ x, ix (rx C q) j = x := ⟨_, rfl⟩
                  rw [hxe] at d2 hx
                  have Hx := Lib.hid hxe
                  have HTq : Hid (tabM C sk k q j = if x = -1 then far else x) := Lib.hid (by unfold tabM wideT; rw [if_pos hlt2]; show (if ix (rx C q) j = -1 then far else ix (rx C q) j) = _; rw [hxe])
                  clear hcc hc1 hb3 hxe
                  have hub : -2199023255552 ≤ UU q ∧ UU q ≤ 2199023255552 := by
                    have y1 := HBV.out.1 (q + 1) (by omega) (by omega)
                    have z1 := HBV.out.2 (k + q + 1) (by omega) (by omega)
                    have := HU.out q
                    simp only [far] at y1 z1
                    omega
                  have hvb : -2199023255552 ≤ VV j ∧ VV j ≤ 2199023255552 := by
                    have z1 := HBV.out.2 (j + 1) (by omega) (by omega)
                    have := HV.out j
                    simp only [far] at z1
                    omega
                  have HNg := Lib.hid (fun h => not_good_far (w := wf) (j := j) HW.out HLe.out hlt h)
                  have HNt := Lib.hid (fun h => not_good_tight (w := wf) HW.out HLe.out HPo'.out hlt hlt2 h)
                  generalize hy9 : UU q = y at d3 Hu hub
                  generalize hz9 : VV j = z at d4 Hv hvb
                  obtain ⟨y0, y1⟩ := hub
                  obtain ⟨z0, z1⟩ := hvb
                  obtain ⟨x0, x1⟩ := hx
                  have e6 : IntKind.i64.wrap (y + z) = y + z := IntWalk.i64_in _ (by omega)
                  clear hy9 hz9
                  by_cases hx1 : x = -1
                  · have HN2 : Hid (¬ Good (tabM C sk k) n k t (upd wf q j) (q + 1)) := Lib.hid (HNg.out (by show tabM C sk k q j = far; rw [HTq.out, if_pos hx1]))
                    subst hx1
                    clear HNg HNt
                    go_wp2_with (go_quiet (fail))
                    go_roundg (k - j - 1)
                    case measure => have := Hjk.out; omega
                    case rel => exact ⟨j + 1, by omega, by go_num, rfl, fun j' hj' => by
                      by_cases e : j' = j
                      · rw [e]; exact HN2.out
                      · exact HNo.out j' (by omega), H.out.drewN _, HT.out.frame ((Mod.refl NoBlock wo).drewN _) (fun _ _ => id)⟩
                  have hx1b : (x == -1) = false := beq_eq_false_iff_ne.2 hx1
                  by_cases hxy : y + z = x
                  · have hxb : (y + z != x) = false := by rw [hxy]; simp
                    clear HNg HNt hx1
                    go_upto_region 24 with (go_quiet (fail))
                    have hns := H.out.drewN nq
                    have hts : Tab (fun b => b < (wo.drewN nq).heap.size ∧ b ≠ w7.heap.size ∧ some b ≠ blockOf aC) (wo.drewN nq) gz 0 n (k + n) (restr (tabM C sk k) wf q) ra ro rc := HT.out.frame ((Mod.refl NoBlock wo).drewN nq) (fun _ _ => id)
                    generalize wo.drewN nq = w9 at hns hts ⊢
                    clear H HT d1 d2 d3 d4 b2 b3' e6 hxy hxb hx1b
                    have H := Lib.hid hns
                    have HT := Lib.hid hts
                    clear hns hts
                    have Honly := Lib.hid (only_any (ca := cz) (i := q) (j := j) HT.out hlt (by omega) (by omega) (by omega))
                    go_upto_region 25 with (go_at_call 59; refine Honly.out.mono ?_; rintro e w10 ⟨g2, cg, ra2, ro2, rc2, rfl, m10, ht10⟩)
                    have H10 := Lib.hid (H.out.frame m10)
                    have HT10 := Lib.hid ((HT.out.frame m10 (fun _ _ => id)).congr (D' := fun b => b < w10.heap.size ∧ b ≠ w7.heap.size ∧ some b ≠ blockOf aC) (fun _ _ _ _ => rfl) (fun b hb => ⟨Nat.lt_of_lt_of_le hb.1 m10.size, hb.2⟩))
                    have HN10 : Hid (Tab (fun b => b < w10.heap.size ∧ b ≠ w7.heap.size ∧ some b ≠ blockOf aC) w10 g2 0 n (k + n) (restr (tabM C sk k) (upd wf q j) (q + 1)) ra2 ro2 rc2) := Lib.hid
                      ((ht10.both (by omega)).congr (fun r _ p _ => oneRow_restr r p) (fun b hb => by
                        refine ⟨hb.2, ?_⟩
                        rcases hb.1 with h9 | h9
                        · exact h9.2
                        · exact ⟨by have := H.out.lt; omega, fun e => by have := (H.out.cols.lt e.symm).2; omega⟩))
                    have Hok2 := Lib.hid (show TabOk (restr (tabM C sk k) (upd wf q j) (q + 1)) n (k + n) from fun r hr p hp => by
                      unfold restr
                      split
                      · simp [far]
                      · exact HW.out.le r hr p hp)
                    clear ht10 H HT Honly m10
                    have Htot := Lib.hid (total_any (w := w10.drew) (ca := cg) ((HN10.out.size (by omega)).frame ((Mod.refl NoBlock w10).drew) (fun _ _ => id)) Hok2.out (by omega) (by omega) (by omega))
                    have c1 := H10.out.b1
                    go_region_law (first
                      | (go_simp; go_at_call 58; refine Htot.out.mono ?_; rintro e w11 ⟨t2, rfl, ht2, hm11⟩
                         have st1 : w11.cell? ⟨w7.heap.size, 1, none⟩ = some (.int .i64 t) := hm11.cell c1 id))
                    all_goals
                      by_cases ht : t2 = t
                      · have HG : Hid (Good (tabM C sk k) n k t (upd wf q j) (q + 1)) := Lib.hid ((least_restr HW.out HLe.out _ (by omega)).1 (by rw [← ht]; exact ht2))
                        have htb : (t2 == t) = true := by rw [ht]; simp
                        clear ht2 ht
                        have H11 := Lib.hid ((H10.out.drew.frame hm11).congrC (Cf' := colZ k (upd wf q j)) (fun i hi => by unfold colZ; rw [upd_ne _ (by omega)]))
                        have HT11 := Lib.hid (((HN10.out.frame ((Mod.refl NoBlock w10).drew) (fun _ _ => id)).frame hm11 (fun _ _ => id)).congr (D' := fun b => b < w11.heap.size ∧ b ≠ w7.heap.size ∧ some b ≠ blockOf aC) (fun _ _ _ _ => rfl) (fun b hb => ⟨Nat.lt_of_lt_of_le hb.1 hm11.size, hb.2⟩))
                        have Hcf : Hid (colZ k (upd wf q j) q = (j : Int)) := Lib.hid (by unfold colZ; rw [upd_at, if_pos hlt2])
                        have Hl := Lib.hid (rowV_length q (colZ k (upd wf q j)))
                        have HS2 := Lib.hid (HUp.out.step HG.out HNo.out)
                        clear st1 c1 hm11
                        have b0 := H11.out.b0
                        have hsz := H11.out.lt
                        go_wp2_with (at_builtin
                                     refine wpList_append1 (vs := rowV q (colZ k (upd wf q j))) rfl (.tmp 130) (.tmp 132) _ rfl Hel.out q 1 (q + 1) 1 [.int .i64 (j : Int)] rfl rfl Hl.out.symm (by simp) (by omega) (H11.out.cols.alloc _) (Src.one _ _ _) (by simp [Value.oneCell']) (by simp only [maxLen]; omega) (by omega) (by simp; omega) ?_
                                     intro a4 c4 w4 hown4 hgrow4 hat4
                                     rw [← Hcf.out] at hown4
                                     have hk4 := H11.out.keep H11.out.cols hgrow4
                                     have H4 := Lib.hid (H11.out.appendC hown4 hgrow4 hat4)
                                     have st1 : w4.cell? ⟨w7.heap.size, 0, none⟩ = some (.slice aC q cC) := hk4.cell (i := 0) (by omega)
                                     have st2 : w4.frozen? ⟨w7.heap.size, 0, none⟩ = false := hk4.frozen 0
                                     clear hown4 hat4 hk4 hgrow4 b0)
                        go_roundg (n - q - 1)
                        case measure => have := Hqk.out; omega
                        case rel =>
                          have h4 := H4.out
                          refine ⟨q + 1, upd wf q j, a4, c4, g2, cg, ra2, ro2, rc2, by have := Hqk.out; omega, by go_num, rfl, HS2.out, h4.1, HT11.out.blocks fun b hb => ?_⟩
                          obtain ⟨h5, h6⟩ := h4.2 b hb.1 hb.2.1 hb.2.2
                          refine ⟨h5, ?_, hb.2.1, h6⟩
                          have h7 := h4.1.mod
                          refine Nat.lt_of_not_le fun hle => ?_
                          rw [Array.getElem?_eq_none hle] at h5
                          have := Array.getElem?_eq_none_iff.1 h5.symm
                          omega
                      · have HN2 : Hid (¬ Good (tabM C sk k) n k t (upd wf q j) (q + 1)) := Lib.hid fun hg => ht (ht2.unique ((least_restr HW.out HLe.out _ (by omega)).2 hg))
                        have htb : (t2 == t) = false := beq_eq_false_iff_ne.2 ht
                        clear ht2 ht
                        go_wp2_with fail
                        go_roundg (k - j - 1)
                        case measure => have := Hjk.out; omega
                        case rel => exact ⟨j + 1, by omega, by go_num, rfl, fun j' hj' => by
                          by_cases e : j' = j
                          · rw [e]; exact HN2.out
                          · exact HNo.out j' (by omega), H10.out.drew.frame hm11, ((HT10.out.frame ((Mod.refl NoBlock w10).drew) (fun _ _ => id)).frame hm11 (fun _ _ => id)).congr (fun _ _ _ _ => rfl) (fun b hb => ⟨Nat.lt_of_lt_of_le hb.1 hm11.size, hb.2⟩)⟩
                  · have hxb : (y + z != x) = true := bne_iff_ne.2 hxy
                    have HN2 : Hid (¬ Good (tabM C sk k) n k t (upd wf q j) (q + 1)) := Lib.hid (HNt.out (by
                      show u (q + 1) + v (k + q + 1) + v (j + 1) ≠ tabM C sk k q j
                      rw [HTq.out, if_neg hx1, ← Hu.out, ← Hv.out]; exact hxy))
                    clear HNg HNt hx1 hxy
                    go_wp2_with (go_quiet (fail))
                    go_roundg (k - j - 1)
                    case measure => have := Hjk.out; omega
                    case rel => exact ⟨j + 1, by omega, by go_num, rfl, fun j' hj' => by
                      by_cases e : j' = j
                      · rw [e]; exact HN2.out
                      · exact HNo.out j' (by omega), H.out.drewN _, HT.out.frame ((Mod.refl NoBlock wo).drewN _) (fun _ _ => id)⟩
                · obtain rfl : k = j := by omega
                  obtain ⟨hg9, hn9⟩ := HUp.out.own HW.out HLe.out hlt HNo.out
                  have HS2 := Lib.hid (HUp.out.step hg9 hn9)
                  have honly := only_any (ca := cz) (i := q) (j := k + q) HT.out hlt (by omega) (by omega) (by omega)
                  rw [Int.natCast_add] at honly
                  have Honly := Lib.hid honly
                  have w2 : IntKind.i64.wrap ((k : Int) + (q : Int)) = (k : Int) + (q : Int) := IntWalk.i64_in _ (by omega)
                  clear honly hg9 hn9 hlt2
                  go_upto_region 30 with (go_at_call 59; refine Honly.out.mono ?_; rintro e w10 ⟨g2, cg, ra2, ro2, rc2, rfl, m10, ht10⟩)
                  have H11 := Lib.hid ((H.out.frame m10).congrC (Cf' := colZ k (upd wf q (k + q))) (fun i hi => by unfold colZ; rw [upd_ne _ (by omega)]))
                  have HN10 : Hid (Tab (fun b => b < w10.heap.size ∧ b ≠ w7.heap.size ∧ some b ≠ blockOf aC) w10 g2 0 n (k + n) (restr (tabM C sk k) (upd wf q (k + q)) (q + 1)) ra2 ro2 rc2) := Lib.hid
                    ((ht10.both (by omega)).congr (fun r _ p _ => oneRow_restr r p) (fun b hb => by
                      refine ⟨hb.2, ?_⟩
                      rcases hb.1 with h9 | h9
                      · exact h9.2
                      · exact ⟨by have := H.out.lt; omega, fun e => by have := (H.out.cols.lt e.symm).2; omega⟩))
                  have Hcf : Hid (colZ k (upd wf q (k + q)) q = -1) := Lib.hid (by unfold colZ; rw [upd_at, if_neg (by omega)])
                  have Hl := Lib.hid (rowV_length q (colZ k (upd wf q (k + q))))
                  clear ht10 H HT Honly m10 w2
                  have b0 := H11.out.b0
                  have hsz := H11.out.lt
                  go_wp2_with (at_builtin
                               refine wpList_append1 (vs := rowV q (colZ k (upd wf q (k + q)))) rfl (.tmp 143) (.tmp 144) _ rfl Hel.out q 1 (q + 1) 1 [.int .i64 (-1)] rfl rfl Hl.out.symm (by simp) (by omega) (H11.out.cols.alloc _) (Src.one _ _ _) (by simp [Value.oneCell']) (by simp only [maxLen]; omega) (by omega) (by simp; omega) ?_
                               intro a4 c4 w4 hown4 hgrow4 hat4
                               rw [← Hcf.out] at hown4
                               have hk4 := H11.out.keep H11.out.cols hgrow4
                               have H4 := Lib.hid (H11.out.appendC hown4 hgrow4 hat4)
                               have st1 : w4.cell? ⟨w7.heap.size, 0, none⟩ = some (.slice aC q cC) := hk4.cell (i := 0) (by omega)
                               have st2 : w4.frozen? ⟨w7.heap.size, 0, none⟩ = false := hk4.frozen 0
                               clear hown4 hat4 hk4 hgrow4 b0)
                  go_roundg (n - q - 1)
                  case measure => have := Hqk.out; omega
                  case rel =>
                    have h4 := H4.out
                    refine ⟨q + 1, upd wf q (k + q), a4, c4, g2, cg, ra2, ro2, rc2, by have := Hqk.out; omega, by go_num, rfl, HS2.out, h4.1, HN10.out.blocks fun b hb => ?_⟩
                    obtain ⟨h5, h6⟩ := h4.2 b hb.1 hb.2.1 hb.2.2
                    refine ⟨h5, ?_, hb.2.1, h6⟩
                    refine Nat.lt_of_not_le fun hle => ?_
                    rw [Array.getElem?_eq_none hle] at h5
                    have := Array.getElem?_eq_none_iff.1 h5.symm
                    omega
            · obtain rfl : n = q := by omega
              have hF := HUp.out.done HLe.out
              have HF := Lib.hid hF
              have b0 := H.out.b0
              have b1 := H.out.b1
              have b2 := H.out.b2
              have b3 := H.out.b3
              have hS := HbS.out.of_block (H.out.mod.block _ HbS.out.lt id)
              have f0 := hS.frozen 0
              have f1 := hS.frozen 1
              have f2 := hS.frozen 2
              have f3 := hS.frozen 3
              have c0 : wo.cell? ⟨w.heap.size, 0, none⟩ = some (.slice none 0 0) := hS.cell (i := 0) (by decide)
              have c1 : wo.cell? ⟨w.heap.size, 1, none⟩ = some (.int .i64 0) := hS.cell (i := 1) (by decide)
              have c2 : wo.cell? ⟨w.heap.size, 2, none⟩ = some (.slice none 0 0) := hS.cell (i := 2) (by decide)
              have c3 : wo.cell? ⟨w.heap.size, 3, none⟩ = some (.slice none 0 0) := hS.cell (i := 3) (by decide)
              have Hs := Lib.hid hS
              have hws : w.heap.size < w7.heap.size := HbS.out.lt
              clear hF hS HT HUp hlt
              go_wp2_with fail
              try rw [Exit.noGoto_ret]
              have hr := put4 Hs.out (.slice aC n cC) (.int .i64 t) (.slice aU n cU) (.slice aV k cV)
              have hm := mod4 (M7.out.trans H.out.mod) (S := w.heap.size) (.inr (Nat.le_refl _)) (.slice aC n cC) (.int .i64 t) (.slice aU n cU) (.slice aV k cV)
              have hm2 := mod4 (Mod.refl (fun b => b = w.heap.size) wo) (S := w.heap.size) (.inl rfl) (.slice aC n cC) (.int .i64 t) (.slice aU n cU) (.slice aV k cV)
              generalize ((((wo.setCell ⟨w.heap.size, 0, none⟩ (.slice aC n cC)).setCell ⟨w.heap.size, 1, none⟩ (.int .i64 t)).setCell ⟨w.heap.size, 2, none⟩ (.slice aU n cU)).setCell ⟨w.heap.size, 3, none⟩ (.slice aV k cV)) = w2 at hr hm hm2 ⊢
              have t0 : w2.cell? ⟨w.heap.size, 0, none⟩ = some (.slice aC n cC) := hr.cell (i := 0) (by decide)
              have t1 : w2.cell? ⟨w.heap.size, 1, none⟩ = some (.int .i64 t) := hr.cell (i := 1) (by decide)
              have t2 : w2.cell? ⟨w.heap.size, 2, none⟩ = some (.slice aU n cU) := hr.cell (i := 2) (by decide)
              have t3 : w2.cell? ⟨w.heap.size, 3, none⟩ = some (.slice aV k cV) := hr.cell (i := 3) (by decide)
              have hC := H.out.cols.mod hm2 (fun b e e2 => by have := (H.out.cols.lt e).1; omega)
              have hU := H.out.us.mod hm2 (fun b e e2 => by have := (H.out.us.lt e).1; omega)
              have hV := H.out.vs.mod hm2 (fun b e e2 => by have := (H.out.vs.lt e).1; omega)
              rw [rowV_map] at hC hU hV
              have eU : rowI n UU = rowI n (fun i => u (i + 1) + v (k + i + 1)) := by unfold rowI; exact List.map_congr_left fun i _ => HU.out i
              have eV : rowI k VV = rowI k (fun j => v (j + 1)) := by unfold rowI; exact List.map_congr_left fun i _ => HV.out i
              rw [eU] at hU
              rw [eV] at hV
              refine bodyPost_ret (v := .tuple #[.agg #[.slice aC n cC, .int .i64 t, .slice aU n cU, .slice aV k cV], .int .i64 0]) (by simp [results, Try.results39, go_sem, t0, t1, t2, t3]) rfl
                ⟨t, wf, fun r => u (r + 1), fun j => v (j + 1), aC, cC, aU, cU, aV, cV, rfl, hm, HF.out, HPo'.out, ?_, ?_, ?_⟩
              · exact hC.ints (fun b hb _ => by show w.heap.size ≤ b; omega) (by rw [rowI_length]; simp only [maxLen]; omega)
              · exact hU.ints (fun b hb _ => by show w.heap.size ≤ b; omega) (by rw [rowI_length]; simp only [maxLen]; omega)
              · exact hV.ints (fun b hb _ => by show w.heap.size ≤ b; omega) (by rw [rowI_length]; simp only [maxLen]; omega)

end Go.Proofs.Ytnpdkpbecmpdbaa
