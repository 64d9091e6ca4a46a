/-
  contract: Assign of the code.
-/
import Derived.Test.YtnpdkpbecmpdbaaKf
import Derived.Deep.RegionLaw
import Derived.WalkMore
set_option linter.unusedVariables false
set_option linter.unusedSimpArgs false
namespace Go.Proofs.Ytnpdkpbecmpdbaa
open Go.RowKit

theorem elemRowsK : Elem1 Try.prog 22 31 24 := Elem1.mk Try.underlying22 infoIntsM rfl

set_option maxRecDepth 100000 in
set_option maxHeartbeats 12800000 in
theorem assign_any {D E F : Nat → Prop} {w : World} {a aG aB : Option Addr} {c cG cB : Nat} {l : List Ctr} {g : List (Int × Int)} {bs : List Bal} (hx : Ctrs D w a l) (hcap : l.length ≤ c) (hg : Grs E w aG g) (hb : Bals F w aB bs) (hbl : bs.length ≤ 60) :
    Calls Try.prog 17 #[.slice a l.length c, .slice aG g.length cG, .slice aB bs.length cB] w (AsgRes g l bs w) := by
  have m0 := (Mod.refl NoBlock w).alloc (.cells #[.slice aG g.length cG] 48)
  have HL := Lib.hid (hx.frame m0)
  have HG := Lib.hid (hg.frame m0)
  have HB := Lib.hid (hb.frame m0)
  have M0 := Lib.hid m0
  have B0 := Lib.hid (rowIs_new w #[.slice aG g.length cG] 48)
  have hgl : g.length ≤ maxLen := hg.1
  have hll : l.length ≤ maxLen := hx.1
  simp only [maxLen] at hgl hll
  have Hel := Lib.hid elemInt1
  have HeL := Lib.hid elemRowsK
  clear m0 hx hg hb
  by_cases hg0 : chkG g = 0
  case neg =>
    have He : Hid (errA g l bs = chkG g) := Lib.hid (by unfold errA; rw [if_pos hg0])
    have Hi : Hid (AsgIs g l bs [] 0) := Lib.hid (.inl ⟨by rw [He.out]; exact hg0, rfl, rfl⟩)
    have Hc := Lib.hid (gradeCheck_any aG cG g E _ HG.out)
    have hgb : (chkG g != 0) = true := bne_iff_ne.2 hg0
    clear hg0
    generalize chkG g = e0 at Hc He hgb
    go_enter Try.func17, Try.ntmps17
    go_wp2_with (go_at_call 35; refine Hc.out.mono ?_; rintro e w2 ⟨rfl, m⟩)
    have M2 := Lib.hid (M0.out.trans m)
    clear m
    go_wp2_with fail
    go_ret3
    exact ⟨none, 0, [], 0, by rw [He.out]; rfl, M2.out, Ints.nil _ _ _, Hi.out⟩
  have Hc := Lib.hid (gradeCheck_any aG cG g E _ HG.out)
  rw [hg0] at Hc
  have Hk := Lib.hid fun (w' : World) (m : Mod NoBlock _ w') => check52_any (n := (g.length : Int)) (HL.out.frame m) hcap
  by_cases hc0 : chkC l g.length = 0
  case neg =>
    have He : Hid (errA g l bs = chkC l g.length) := Lib.hid (by unfold errA; rw [if_neg (by rw [hg0]; decide), if_pos hc0])
    have Hi : Hid (AsgIs g l bs [] 0) := Lib.hid (.inl ⟨by rw [He.out]; exact hc0, rfl, rfl⟩)
    have hgb : (chkC l g.length != 0) = true := bne_iff_ne.2 hc0
    clear hg0 hc0
    generalize chkC l g.length = e0 at Hk He hgb
    go_enter Try.func17, Try.ntmps17
    go_upto_region 1 with fail
    generalize w.alloc (.cells #[.slice aG g.length cG] 48) = w1 at HL HG HB M0 B0 Hc Hk ⊢
    have c0 : w1.cell? ⟨w.heap.size, 0, none⟩ = some (.slice aG g.length cG) := B0.out.cell (i := 0) (by show 0 < 1; omega)
    go_upto_region 2 with (go_at_call 35; refine Hc.out.mono ?_; rintro e w2 ⟨rfl, m⟩)
    have c0' := m.cell c0 id
    have Hk2 := Lib.hid (Hk.out _ m)
    have M2 := Lib.hid (M0.out.trans m)
    clear m c0 Hk Hc
    go_wp2_with (go_at_call 36; refine Hk2.out.mono ?_; rintro e w3 ⟨rfl, m⟩)
    have M3 := Lib.hid (M2.out.trans m)
    clear m c0'
    go_wp2_with fail
    go_ret3
    exact ⟨none, 0, [], 0, by rw [He.out]; rfl, M3.out, Ints.nil _ _ _, Hi.out⟩
  have He : Hid (errA g l bs = chkM (costsL g l bs) (skipL l)) := Lib.hid (by unfold errA; rw [if_neg (by rw [hg0]; decide), if_neg (by rw [hc0]; decide)])
  obtain ⟨f1, f2, _⟩ := chkC_facts hc0
  have HN := Lib.hid fun i (hi : i < l.length) => (ctrE_ok (f2 i hi)).1
  rw [hc0] at Hk
  clear hg0 hc0 f2
  go_enter Try.func17, Try.ntmps17
  go_upto_region 1 with fail
  generalize w.alloc (.cells #[.slice aG g.length cG] 48) = w1 at HL HG HB M0 B0 Hc Hk ⊢
  have Hg4 : Hid (w1.cell? ⟨w.heap.size, 0, none⟩ = some (.slice aG g.length cG)) := Lib.hid (B0.out.cell (i := 0) (by show 0 < 1; omega))
  have hg4 := Hg4.out
  generalize w.heap.size = g4 at Hg4 hg4 ⊢
  go_upto_region 2 with (go_at_call 35; refine Hc.out.mono ?_; rintro e w2 ⟨rfl, m⟩)
  have c0' := m.cell hg4 id
  have Hk2 := Lib.hid (Hk.out _ m)
  have M2 := Lib.hid m
  clear m hg4 Hk Hc
  go_upto_region 7 with (go_at_call 36; refine Hk2.out.mono ?_; rintro e w3 ⟨rfl, m⟩)
  have M3 := Lib.hid (M2.out.trans m)
  clear m c0' M2 Hk2
  have HL3 := Lib.hid (HL.out.frame M3.out)
  have HG3 := Lib.hid (HG.out.frame M3.out)
  have HB3 := Lib.hid (HB.out.frame M3.out)
  have H43 := Lib.hid (M3.out.cell Hg4.out id)
  have M03 := Lib.hid (M0.out.trans M3.out)
  clear HL HG HB Hg4 M0 M3 B0
  obtain ⟨_, bL, oL, haL, hcL⟩ := HL3.out.open
  obtain ⟨_, bB, oB, haB, hcB⟩ := HB3.out.open
  have HaL := Lib.hid haL
  have HcL := Lib.hid hcL
  have HaB := Lib.hid haB
  have HcB := Lib.hid hcB
  obtain ⟨n, hn⟩ : ∃ n, l.length = n := ⟨_, rfl⟩
  obtain ⟨nb, hnb⟩ : ∃ nb, bs.length = nb := ⟨_, rfl⟩
  have Hn := Lib.hid hn
  have Hnb := Lib.hid hnb
  rw [hn] at HcL HN f1 hll ⊢
  rw [hnb] at HcB hbl ⊢
  clear haL hcL haB hcB hn hnb
  have Hmk := Lib.hid (run_make_row' (P := Try.prog) 31 3 (.int .i64 0) 8 Try.underlying31 infoIntM rfl .i64 .i64 nb (by omega) (by omega))
  go_wp2_with fail
  go_loopw [12, 13, 36] (fun co sv iv wr => ∃ (q : Nat) (a1 : Option Addr) (c1 : Nat) (ad : Nat → Option Addr) (rc : Nat → Nat) (aS : Option Addr) (cS : Nat), q ≤ n ∧ iv = .int .i64 q ∧ co = .slice a1 q c1 ∧ sv = .slice aS q cS ∧
    CPS w3 wr a1 c1 q nb (costT g l bs) ad rc aS cS q (skipT l)) (fun _ _ iv _ => n - (intOf iv).toNat)
  case atStart => exact ⟨0, none, 0, _, _, none, 0, by omega, rfl, rfl, rfl, CPS.nil _ _ _ _⟩
  case round =>
    obtain ⟨q, a1, c1, ad, rc, aS, cS, hq, rfl, rfl, rfl, hcps⟩ := hrel
    have G := Lib.hid hcps
    clear hcps
    obtain ⟨wo, rfl⟩ : ∃ wo : World, wo = wr := ⟨_, rfl⟩
    by_cases hlt : q < n
    · have q1 : (q : Int) < (n : Int) := by omega
      obtain rfl := HaL.out (by intro e; have := Hn.out; rw [e] at this; simp at this; omega)
      obtain ⟨d0, d1, d2, d3, d4, d5, d6⟩ := (HcL.out q hlt).mod G.out.cp.mod id
      obtain ⟨x, hx⟩ : ∃ x, cx l q = x := ⟨_, rfl⟩
      rw [hx] at d0 d1 d2 d3 d4 d5 d6
      have Hx := Lib.hid hx
      have HNx : Hid (NumC x) := Lib.hid (by rw [← hx]; exact HN.out q hlt)
      clear hx
      have hsz := G.out.cp.mod.size
      have hmk := Hmk.out
      have hM5 := ((Mod.refl NoBlock wo).alloc (.cells #[.int .i64 x.i, .int .i64 x.m, .int .i64 x.g, .int .i64 x.w, .int .i64 x.s, .int .i64 x.p, .int .i64 x.q] 58)).alloc (.cells (madeCells #[.int .i64 0] nb) 3)
      have hB5 := (rowIs_new wo #[.int .i64 x.i, .int .i64 x.m, .int .i64 x.g, .int .i64 x.w, .int .i64 x.s, .int .i64 x.p, .int .i64 x.q] 58).alloc (.cells (madeCells #[.int .i64 0] nb) 3)
      have hO5 := own_made (wo.alloc (.cells #[.int .i64 x.i, .int .i64 x.m, .int .i64 x.g, .int .i64 x.w, .int .i64 x.s, .int .i64 x.p, .int .i64 x.q] 58)) nb (by simp only [maxLen]; omega)
      rw [show (wo.alloc (.cells #[.int .i64 x.i, .int .i64 x.m, .int .i64 x.g, .int .i64 x.w, .int .i64 x.s, .int .i64 x.p, .int .i64 x.q] 58)).heap.size = wo.heap.size + 1 by simp] at hO5
      have M5 := Lib.hid hM5
      have B5 := Lib.hid hB5
      have O5 := Lib.hid (hO5.mono (B' := wo.heap.size) (by omega))
      clear hM5 hB5 hO5
      go_upto_region 14 with fail
      clear d0 d1 d2 d3 d4 d5 d6 hmk
      generalize (wo.alloc (.cells #[.int .i64 x.i, .int .i64 x.m, .int .i64 x.g, .int .i64 x.w, .int .i64 x.s, .int .i64 x.p, .int .i64 x.q] 58)).alloc (.cells (madeCells #[.int .i64 0] nb) 3) = w5 at M5 B5 O5 ⊢
      obtain ⟨gb, hgb⟩ : ∃ gb, wo.heap.size = gb := ⟨_, rfl⟩
      rw [hgb] at B5 O5 ⊢
      have Hgb := Lib.hid hgb
      clear hgb
      go_wp2_with fail
      go_loopw [45] (fun jv wr => ∃ j : Nat, j ≤ nb ∧ jv = .int .i64 j ∧ Mod NoBlock wo wr ∧ wr.rowIs gb 58 7 (fun i => (#[.int .i64 x.i, .int .i64 x.m, .int .i64 x.g, .int .i64 x.w, .int .i64 x.s, .int .i64 x.p, .int .i64 x.q] : Array Value).getD i undef) ∧
        Own wr gb 3 (some ⟨gb + 1, 0, none⟩) nb (rowV nb (midF (costT g l bs q) (fun _ => 0) j))) (fun jv _ => nb - (intOf jv).toNat)
      case atStart => exact ⟨0, by omega, rfl, M5.out, B5.out, by have h9 := O5.out; rwa [rowV_congr (F := fun _ => 0) (F' := midF (costT g l bs q) (fun _ => 0) 0) (fun j _ => by rw [midF_ge (Nat.not_lt_zero j)])] at h9⟩
      case round =>
        clear M5 B5 O5
        clear w5
        obtain ⟨j, hj, rfl, hm, hbx, hrow⟩ := hrel
        have M := Lib.hid hm
        have BX := Lib.hid hbx
        have RW := Lib.hid hrow
        clear hm hbx hrow
        obtain ⟨wp, rfl⟩ : ∃ wp : World, wp = wr := ⟨_, rfl⟩
        by_cases hjn : j < nb
        · have j1 : (j : Int) < (nb : Int) := by omega
          obtain rfl := HaB.out (by intro e; have := Hnb.out; rw [e] at this; simp at this; omega)
          obtain ⟨a', c', k0, k1, k2, k3, hmix⟩ := (HcB.out j hjn).frame (G.out.cp.mod.trans M.out)
          obtain ⟨y, hy⟩ : ∃ y, bx bs j = y := ⟨_, rfl⟩
          rw [hy] at k0 k1 k2 k3 hmix
          have Hy := Lib.hid hy
          clear hy
          have m6 := (Mod.refl NoBlock wp).alloc (.cells #[.int .i64 y.id, .int .i64 y.mat, .int .i64 y.tm, .slice a' y.mix.length c'] 60)
          have M6 := Lib.hid (M.out.trans m6)
          have BX6 := Lib.hid (BX.out.of_block (m6.block _ BX.out.lt id))
          have RW6 := Lib.hid (RW.out.mod m6 fun _ _ => id)
          have BY6 := Lib.hid (rowIs_new wp #[.int .i64 y.id, .int .i64 y.mat, .int .i64 y.tm, .slice a' y.mix.length c'] 60)
          have HM6 := Lib.hid (hmix.frame m6)
          have HG6 := Lib.hid (HG3.out.frame (G.out.cp.mod.trans M6.out))
          have H46 := Lib.hid ((G.out.cp.mod.trans M6.out).cell H43.out id)
          clear hmix m6
          go_upto_region 17 with fail
          clear k0 k1 k2 k3 BX RW M
          generalize wp.alloc (.cells #[.int .i64 y.id, .int .i64 y.mat, .int .i64 y.tm, .slice a' y.mix.length c'] 60) = w6 at M6 BX6 RW6 BY6 HM6 HG6 H46 ⊢
          generalize wp.heap.size = gy at BY6 ⊢
          have Hcost := Lib.hid (cost_any x y (c := cG) (c2 := c') HG6.out HM6.out HNx.out H46.out)
          have e0 : w6.cell? ⟨gb, 0, none⟩ = some (.int .i64 x.i) := BX6.out.cell (i := 0) (by show 0 < 7; omega)
          have e1 : w6.cell? ⟨gb, 1, none⟩ = some (.int .i64 x.m) := BX6.out.cell (i := 1) (by show 1 < 7; omega)
          have e2 : w6.cell? ⟨gb, 2, none⟩ = some (.int .i64 x.g) := BX6.out.cell (i := 2) (by show 2 < 7; omega)
          have e3 : w6.cell? ⟨gb, 3, none⟩ = some (.int .i64 x.w) := BX6.out.cell (i := 3) (by show 3 < 7; omega)
          have e4 : w6.cell? ⟨gb, 4, none⟩ = some (.int .i64 x.s) := BX6.out.cell (i := 4) (by show 4 < 7; omega)
          have e5 : w6.cell? ⟨gb, 5, none⟩ = some (.int .i64 x.p) := BX6.out.cell (i := 5) (by show 5 < 7; omega)
          have e6 : w6.cell? ⟨gb, 6, none⟩ = some (.int .i64 x.q) := BX6.out.cell (i := 6) (by show 6 < 7; omega)
          have k0 : w6.cell? ⟨gy, 0, none⟩ = some (.int .i64 y.id) := BY6.out.cell (i := 0) (by show 0 < 4; omega)
          have k1 : w6.cell? ⟨gy, 1, none⟩ = some (.int .i64 y.mat) := BY6.out.cell (i := 1) (by show 1 < 4; omega)
          have k2 : w6.cell? ⟨gy, 2, none⟩ = some (.int .i64 y.tm) := BY6.out.cell (i := 2) (by show 2 < 4; omega)
          have k3 : w6.cell? ⟨gy, 3, none⟩ = some (.slice a' y.mix.length c') := BY6.out.cell (i := 3) (by show 3 < 4; omega)
          go_wp2_with (go_at_call 37; refine Hcost.out.mono ?_; rintro e w7 ⟨rfl, m⟩
                       have HO7 := Lib.hid (RW6.out.mod m fun _ _ => id)
                       have M7 := Lib.hid (M6.out.trans m)
                       have BX7 := Lib.hid (BX6.out.of_block (m.block _ BX6.out.lt id))
                       have st1 := (HO7.out.cellAt hjn).1
                       have st2 := (HO7.out.cellAt hjn).2
                       clear m)
          have hset := HO7.out.set (k := j) (v := costB g x y) (F' := midF (costT g l bs q) (fun _ => 0) (j + 1)) (fun _ => by rw [midF_at]; unfold costT; rw [Hx.out, Hy.out]) (fun p _ hp => midF_step hp)
          exact ⟨⟨j + 1, by omega, by go_num, M7.out.setCell (p := ⟨gb + 1, j, none⟩) (.inr (by have := Hgb.out; show wo.heap.size ≤ gb + 1; omega)) _, BX7.out.setOther (by show ¬ gb = gb + 1; omega) _, hset⟩, by simp [intOf]; omega⟩
        · obtain rfl : nb = j := by omega
          clear hjn hj
          have RW2 : Hid (Own wp wo.heap.size 3 (some ⟨gb + 1, 0, none⟩) nb (rowV nb (costT g l bs q))) := Lib.hid (by rw [Hgb.out, ← rowV_congr (F := midF (costT g l bs q) (fun _ => 0) nb) (fun j hj => midF_lt hj)]; exact RW.out)
          have Hl2 := Lib.hid (hdrsO_length nb ad rc q)
          have hsz2 := M.out.size
          go_upto_region 20 with (at_builtin; refine wpList_append1 (vs := hdrsO nb ad rc q) rfl (.tmp 58) (.tmp 60) _ rfl HeL.out q 1 (q + 1) 1 [.slice (some ⟨gb + 1, 0, none⟩) nb nb] rfl rfl Hl2.out.symm (by simp) (by omega) ((G.out.cp.own.mod M.out fun _ _ => id).alloc _) (Src.one _ _ _) (by simp [Value.oneCell']) (by simp only [maxLen]; omega) (by omega) (by simp; omega) ?_; intro a5 c5 w8 hown5 hgrow5 hat5)
          have G8 := Lib.hid (G.out.push M.out RW2.out hown5 hgrow5 hat5)
          have hb8 : w8.rowIs gb 58 7 (fun i => (#[.int .i64 x.i, .int .i64 x.m, .int .i64 x.g, .int .i64 x.w, .int .i64 x.s, .int .i64 x.p, .int .i64 x.q] : Array Value).getD i undef) := BX.out.of_block ((hgrow5.block gb (by have := BX.out.lt; simp; omega) (fun e => by have h1 := (G.out.cp.own.lt e.symm).2; have := Hgb.out; omega)).trans (Below.heap_alloc wp _ _ BX.out.lt))
          have e0 : w8.cell? ⟨gb, 0, none⟩ = some (.int .i64 x.i) := hb8.cell (i := 0) (by show 0 < 7; omega)
          have e1 : w8.cell? ⟨gb, 1, none⟩ = some (.int .i64 x.m) := hb8.cell (i := 1) (by show 1 < 7; omega)
          have e2 : w8.cell? ⟨gb, 2, none⟩ = some (.int .i64 x.g) := hb8.cell (i := 2) (by show 2 < 7; omega)
          have e3 : w8.cell? ⟨gb, 3, none⟩ = some (.int .i64 x.w) := hb8.cell (i := 3) (by show 3 < 7; omega)
          have e4 : w8.cell? ⟨gb, 4, none⟩ = some (.int .i64 x.s) := hb8.cell (i := 4) (by show 4 < 7; omega)
          have e5 : w8.cell? ⟨gb, 5, none⟩ = some (.int .i64 x.p) := hb8.cell (i := 5) (by show 5 < 7; omega)
          have e6 : w8.cell? ⟨gb, 6, none⟩ = some (.int .i64 x.q) := hb8.cell (i := 6) (by show 6 < 7; omega)
          clear hb8 hown5 hgrow5 hat5 M RW RW2 BX G hsz2
          have hsz8 := G8.out.cp.mod.size
          have Hl3 := Lib.hid (rowV_length q (skipT l))
          have Hms := Lib.hid fun w' => missing_any x 0 w' HNx.out (by omega) (by omega)
          obtain ⟨ms, hms⟩ : ∃ ms, missC x 0 = ms := ⟨_, rfl⟩
          rw [hms] at Hms
          have HS : Hid (skipT l q = ms) := Lib.hid (by unfold skipT; rw [Hx.out, hms])
          clear hms
          go_wp2_with (first
            | (go_at_call 38; refine (Hms.out _).mono ?_; rintro e w9 ⟨rfl, m⟩
               have M9 := Lib.hid m
               have hsz9 := m.size
               clear m)
            | (at_builtin; refine wpList_append1 (vs := rowV q (skipT l)) rfl (.tmp 62) (.tmp 65) _ rfl Hel.out q 1 (q + 1) 1 [.int .i64 ms] rfl rfl Hl3.out.symm (by simp) (by omega) ((G8.out.sk.mod M9.out fun _ _ => id).alloc _) (Src.one _ _ _) (by simp [Value.oneCell']) (by simp only [maxLen]; omega) (by omega) (by simp; omega) ?_; intro a6 c6 w10 hown6 hgrow6 hat6))
          rw [← HS.out] at hown6
          exact ⟨⟨q + 1, a5, c5, _, _, a6, c6, by omega, by go_num, rfl, rfl, G8.out.app M9.out hown6 hgrow6 hat6⟩, by simp [intOf]; omega⟩
    · obtain rfl : n = q := by omega
      clear hlt hq
      have hCe : costsL g l bs = rowsI n nb (costT g l bs) := by unfold costsL; rw [Hn.out, Hnb.out]
      have hSe : skipL l = rowI n (skipT l) := by unfold skipL; rw [Hn.out]
      have hmx := G.out.cp.mixes (by simp only [maxLen]; omega) (by simp only [maxLen]; omega)
      rw [← hCe] at hmx
      have hos := G.out.sk
      rw [rowV_map, ← hSe] at hos
      have his : Ints (fun b => w3.heap.size ≤ b) wo aS (skipL l) := hos.ints (fun b hb _ => hb) (by rw [hSe, rowI_length]; simp only [maxLen]; omega)
      have MW := Lib.hid (M03.out.trans G.out.cp.mod)
      have Hmx := Lib.hid hmx
      have His := Lib.hid his
      have HlC : Hid ((costsL g l bs).length = n) := Lib.hid (by rw [costsL_length]; exact Hn.out)
      have HlS : Hid ((skipL l).length = n) := Lib.hid (by rw [skipL_length]; exact Hn.out)
      have Hi0 : Hid (errA g l bs ≠ 0 → AsgIs g l bs [] 0) := Lib.hid fun h => .inl ⟨h, rfl, rfl⟩
      have Hi1 : Hid (∀ t wf, errA g l bs = 0 → First (tabM (costsL g l bs) (skipL l) (rx (costsL g l bs) 0).length) n (rx (costsL g l bs) 0).length t wf → AsgIs g l bs (rowI n (colZ (rx (costsL g l bs) 0).length wf)) t) := Lib.hid fun t wf h hF => .inr ⟨h, wf, by rw [Hn.out]; exact hF, by rw [Hn.out]⟩
      clear hCe hSe hmx hos his G
      obtain ⟨C, hC⟩ : ∃ C, costsL g l bs = C := ⟨_, rfl⟩
      obtain ⟨sk, hsk⟩ : ∃ sk, skipL l = sk := ⟨_, rfl⟩
      rw [hC] at Hmx HlC He Hi1
      rw [hsk] at His HlS He Hi1
      clear hC hsk
      by_cases hok : chkM C sk = 0
      case neg =>
        have hsv := solve_bad (c := c1) (d := cS) Hmx.out His.out hok
        rw [HlC.out, HlS.out] at hsv
        have Hsv := Lib.hid hsv
        have hb : (chkM C sk != 0) = true := bne_iff_ne.2 hok
        have He2 := Lib.hid (show errA g l bs ≠ 0 by rw [He.out]; exact hok)
        clear hsv hok
        generalize chkM C sk = e9 at Hsv hb He
        go_wp2_with (go_at_call 39; refine Hsv.out.mono ?_; rintro e w4 ⟨rfl, m⟩)
        have M4 := Lib.hid (MW.out.trans (m.alloc (.cells #[.slice none 0 0, .int .i64 0, .slice none 0 0, .slice none 0 0] 90)))
        clear m
        go_wp2_with fail
        go_ret3
        exact ⟨none, 0, [], 0, by rw [He.out]; rfl, M4.out, Ints.nil _ _ _, Hi0.out He2.out⟩
      obtain ⟨kk, hkk⟩ : ∃ kk, (rx C 0).length = kk := ⟨_, rfl⟩
      have Hsv := Lib.hid (solve_ok (c := c1) (d := cS) Hmx.out His.out hok HlC.out hkk)
      rw [hkk] at Hi1
      rw [hok] at He
      clear hok hkk
      go_upto_region 23 with (go_at_call 39; refine Hsv.out.mono ?_; rintro e w4 ⟨t, wf, u, v, aC, cC, aU, cU, aV, cV, rfl, m, hF, -, hCc, -, -⟩)
      have m4 := m.alloc (.cells #[.slice aC n cC, .int .i64 t, .slice aU n cU, .slice aV kk cV] 90)
      have HB4 := Lib.hid (rowIs_new w4 #[.slice aC n cC, .int .i64 t, .slice aU n cU, .slice aV kk cV] 90)
      have HC4 := Lib.hid ((hCc.alloc (.cells #[.slice aC n cC, .int .i64 t, .slice aU n cU, .slice aV kk cV] 90)).mono (D' := fun b => w.heap.size ≤ b) fun b _ hb => by have := MW.out.size; omega)
      have M4 := Lib.hid (MW.out.trans m4)
      have HI := Lib.hid (Hi1.out t wf He.out hF)
      clear m m4 hF hCc Hsv
      generalize w4.alloc (.cells #[.slice aC n cC, .int .i64 t, .slice aU n cU, .slice aV kk cV] 90) = w5 at HB4 HC4 M4 ⊢
      generalize w4.heap.size = gm at HB4 ⊢
      have c0 : w5.cell? ⟨gm, 0, none⟩ = some (.slice aC n cC) := HB4.out.cell (i := 0) (by show 0 < 4; omega)
      have c1' : w5.cell? ⟨gm, 1, none⟩ = some (.int .i64 t) := HB4.out.cell (i := 1) (by show 1 < 4; omega)
      go_wp2_with (go_quiet (fail))
      go_ret3
      refine ⟨aC, cC, rowI n (colZ kk wf), t, ?_, M4.out.drewN _, HC4.out, HI.out⟩
      rw [He.out, rowI_length]
      rfl

end Go.Proofs.Ytnpdkpbecmpdbaa
