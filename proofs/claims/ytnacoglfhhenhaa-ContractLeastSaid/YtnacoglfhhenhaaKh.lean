/-
  contract: the reference's problem of assignment.
-/
import Derived.Test.YtnacoglfhhenhaaKg
import Derived.Test.YtnacoglfhhenhaaMx
set_option linter.unusedVariables false
set_option linter.unusedSimpArgs false
namespace Go.Proofs.Ytnacoglfhhenhaa
open Go.RowKit

set_option maxRecDepth 100000 in
set_option maxHeartbeats 12800000 in
theorem problem_any {D E F : Nat → Prop} {w : World} {a aG aB : Option Addr} {c cG cB n nb : Nat} {l : List Ctr} {g : List (Int × Int)} {bs : List Bal} (hx : Ctrs D w a l) (hg : Grs E w aG g) (hb : Bals F w aB bs) (hN : ∀ i, i < l.length → NumC (cx l i)) (hn : l.length = n) (hnb : bs.length = nb) (f1 : n ≤ 16) (hbl : nb ≤ 60) :
    Calls Try.prog 37 #[.slice a n c, .slice aG g.length cG, .slice aB nb cB] w fun e w' => ∃ a1 c1 ad rc aS cS, e = .returned (.tuple #[.slice a1 n c1, .slice aS n cS]) ∧ CPS w w' a1 c1 n nb (costT g l bs) ad rc aS cS n (skipT l) := by
  have HG := Lib.hid hg
  have Hel := Lib.hid elemInt1
  have HeL := Lib.hid elemRowsK
  obtain ⟨_, bL, oL, haL, hcL⟩ := hx.open
  obtain ⟨_, bB, oB, haB, hcB⟩ := hb.open
  have HaL := Lib.hid haL
  have HcL := Lib.hid hcL
  have HaB := Lib.hid haB
  have HcB := Lib.hid hcB
  have HN := Lib.hid hN
  have Hn := Lib.hid hn
  have Hnb := Lib.hid hnb
  rw [hn] at HcL HN
  rw [hnb] at HcB
  clear haL hcL haB hcB hn hnb hx hg hb hN
  have Hmk := Lib.hid (run_make_row' (P := Try.prog) 30 3 (.int .i64 0) 8 Try.underlying30 infoIntM rfl .i64 .i64 nb (by omega) (by omega))
  go_enter Try.func37, Try.ntmps37
  go_wp2_with fail
  go_loopw [8, 9, 19] (fun co sv iv wr => ∃ (q : Nat) (a1 : Option Addr) (c1 : Nat) (ad : Nat → Option Addr) (rc : Nat → Nat) (aS : Option Addr) (cS : Nat), q ≤ n ∧ iv = .int .i64 q ∧ co = .slice a1 q c1 ∧ sv = .slice aS q cS ∧
    CPS w wr a1 c1 q nb (costT g l bs) ad rc aS cS q (skipT l)) (fun _ _ iv _ => n - (intOf iv).toNat)
  case atStart => exact ⟨0, none, 0, _, _, none, 0, by omega, rfl, rfl, rfl, CPS.nil _ _ _ _⟩
  case round =>
    obtain ⟨q, a1, c1, ad, rc, aS, cS, hq, rfl, rfl, rfl, hcps⟩ := hrel
    have G := Lib.hid hcps
    clear hcps
    obtain ⟨wo, rfl⟩ : ∃ wo : World, wo = wr := ⟨_, rfl⟩
    by_cases hlt : q < n
    · have q1 : (q : Int) < (n : Int) := by omega
      obtain rfl := HaL.out (by intro e; have := Hn.out; rw [e] at this; simp at this; omega)
      obtain ⟨d0, d1, d2, d3, d4, d5, d6⟩ := (HcL.out q hlt).mod G.out.cp.mod id
      obtain ⟨x, hx⟩ : ∃ x, cx l q = x := ⟨_, rfl⟩
      rw [hx] at d0 d1 d2 d3 d4 d5 d6
      have Hx := Lib.hid hx
      have HNx : Hid (NumC x) := Lib.hid (by rw [← hx]; exact HN.out q hlt)
      clear hx
      have hsz := G.out.cp.mod.size
      have hmk := Hmk.out
      have hM5 := ((Mod.refl NoBlock wo).alloc (.cells #[.int .i64 x.i, .int .i64 x.m, .int .i64 x.g, .int .i64 x.w, .int .i64 x.s, .int .i64 x.p, .int .i64 x.q] 28)).alloc (.cells (madeCells #[.int .i64 0] nb) 3)
      have hB5 := (rowIs_new wo #[.int .i64 x.i, .int .i64 x.m, .int .i64 x.g, .int .i64 x.w, .int .i64 x.s, .int .i64 x.p, .int .i64 x.q] 28).alloc (.cells (madeCells #[.int .i64 0] nb) 3)
      have hO5 := own_made (wo.alloc (.cells #[.int .i64 x.i, .int .i64 x.m, .int .i64 x.g, .int .i64 x.w, .int .i64 x.s, .int .i64 x.p, .int .i64 x.q] 28)) nb (by simp only [maxLen]; omega)
      rw [show (wo.alloc (.cells #[.int .i64 x.i, .int .i64 x.m, .int .i64 x.g, .int .i64 x.w, .int .i64 x.s, .int .i64 x.p, .int .i64 x.q] 28)).heap.size = wo.heap.size + 1 by simp] at hO5
      have M5 := Lib.hid hM5
      have B5 := Lib.hid hB5
      have O5 := Lib.hid (hO5.mono (B' := wo.heap.size) (by omega))
      clear hM5 hB5 hO5
      go_upto_region 7 with fail
      clear d0 d1 d2 d3 d4 d5 d6 hmk
      generalize (wo.alloc (.cells #[.int .i64 x.i, .int .i64 x.m, .int .i64 x.g, .int .i64 x.w, .int .i64 x.s, .int .i64 x.p, .int .i64 x.q] 28)).alloc (.cells (madeCells #[.int .i64 0] nb) 3) = w5 at M5 B5 O5 ⊢
      obtain ⟨gb, hgb⟩ : ∃ gb, wo.heap.size = gb := ⟨_, rfl⟩
      rw [hgb] at B5 O5 ⊢
      have Hgb := Lib.hid hgb
      clear hgb
      go_wp2_with fail
      go_loopw [28] (fun jv wr => ∃ j : Nat, j ≤ nb ∧ jv = .int .i64 j ∧ Mod NoBlock wo wr ∧ wr.rowIs gb 28 7 (fun i => (#[.int .i64 x.i, .int .i64 x.m, .int .i64 x.g, .int .i64 x.w, .int .i64 x.s, .int .i64 x.p, .int .i64 x.q] : Array Value).getD i undef) ∧
        Own wr gb 3 (some ⟨gb + 1, 0, none⟩) nb (rowV nb (midF (costT g l bs q) (fun _ => 0) j))) (fun jv _ => nb - (intOf jv).toNat)
      case atStart => exact ⟨0, by omega, rfl, M5.out, B5.out, by have h9 := O5.out; rwa [rowV_congr (F := fun _ => 0) (F' := midF (costT g l bs q) (fun _ => 0) 0) (fun j _ => by rw [midF_ge (Nat.not_lt_zero j)])] at h9⟩
      case round =>
        clear M5 B5 O5
        clear w5
        obtain ⟨j, hj, rfl, hm, hbx, hrow⟩ := hrel
        have M := Lib.hid hm
        have BX := Lib.hid hbx
        have RW := Lib.hid hrow
        clear hm hbx hrow
        obtain ⟨wp, rfl⟩ : ∃ wp : World, wp = wr := ⟨_, rfl⟩
        by_cases hjn : j < nb
        · have j1 : (j : Int) < (nb : Int) := by omega
          obtain rfl := HaB.out (by intro e; have := Hnb.out; rw [e] at this; simp at this; omega)
          obtain ⟨a', c', k0, k1, k2, k3, hmix⟩ := (HcB.out j hjn).frame (G.out.cp.mod.trans M.out)
          obtain ⟨y, hy⟩ : ∃ y, bx bs j = y := ⟨_, rfl⟩
          rw [hy] at k0 k1 k2 k3 hmix
          have Hy := Lib.hid hy
          clear hy
          obtain ⟨a'', c'', _, _, _, hk3, hmixo⟩ := HcB.out j hjn
          rw [Hy.out] at hk3 hmixo
          obtain ⟨rfl, rfl⟩ : a' = a'' ∧ c' = c'' := by
            have h9 := (G.out.cp.mod.trans M.out).cell hk3 id
            rw [k3] at h9
            simp only [Option.some.injEq, Value.slice.injEq, true_and] at h9
            exact ⟨h9.1, h9.2⟩
          clear hk3
          have m6 := (Mod.refl NoBlock wp).alloc (.cells #[.int .i64 y.id, .int .i64 y.mat, .int .i64 y.tm, .slice a' y.mix.length c'] 33)
          have M6 := Lib.hid (M.out.trans m6)
          have BX6 := Lib.hid (BX.out.of_block (m6.block _ BX.out.lt id))
          have RW6 := Lib.hid (RW.out.mod m6 fun _ _ => id)
          have BY6 := Lib.hid (rowIs_new wp #[.int .i64 y.id, .int .i64 y.mat, .int .i64 y.tm, .slice a' y.mix.length c'] 33)
          have Hgy : Hid (wp.heap.size ≠ gb + 1) := Lib.hid (fun e => by have h2 := (RW.out.lt (k := gb + 1) rfl).2; omega)
          have HM7 := Lib.hid ((hmixo.frame G.out.cp.mod).frame (M6.out.setCell (p := ⟨gb + 1, j, none⟩) (.inr (by have := Hgb.out; show wo.heap.size ≤ gb + 1; omega)) (.int .i64 (-1))))
          clear hmix hmixo m6
          go_upto_region 10 with fail
          clear k0 k1 k2 k3 BX RW M
          generalize wp.alloc (.cells #[.int .i64 y.id, .int .i64 y.mat, .int .i64 y.tm, .slice a' y.mix.length c'] 33) = w6 at M6 BX6 RW6 BY6 HM7 ⊢
          generalize wp.heap.size = gy at BY6 Hgy ⊢
          have r1 := (RW6.out.cellAt hjn).1
          have r2 := (RW6.out.cellAt hjn).2
          have RW7 := Lib.hid (RW6.out.set (k := j) (v := -1) (F' := fun p => if p = j then -1 else midF (costT g l bs q) (fun _ => 0) j p) (fun _ => by rw [if_pos rfl]) (fun p _ hp => by rw [if_neg hp]))
          have M7 := Lib.hid (M6.out.setCell (p := ⟨gb + 1, j, none⟩) (.inr (by have := Hgb.out; show wo.heap.size ≤ gb + 1; omega)) (.int .i64 (-1)))
          have BX7 := Lib.hid (BX6.out.setOther (a := ⟨gb + 1, j, none⟩) (by show ¬ gb = gb + 1; omega) (.int .i64 (-1)))
          have BY7 := Lib.hid (BY6.out.setOther (a := ⟨gb + 1, j, none⟩) (by show ¬ gy = gb + 1; exact Hgy.out) (.int .i64 (-1)))
          go_upto_region 11 with fail
          clear r1 r2 M6 BX6 RW6 BY6
          generalize w6.setCell ⟨gb + 1, j, none⟩ (.int .i64 (-1)) = w7 at RW7 M7 BX7 BY7 HM7 ⊢
          have HG7 := Lib.hid (HG.out.frame (G.out.cp.mod.trans M7.out))
          have Hf := Lib.hid (refFits_any x y (c := cG) (c2 := c') HG7.out HM7.out)
          have e0 : w7.cell? ⟨gb, 0, none⟩ = some (.int .i64 x.i) := BX7.out.cell (i := 0) (by show 0 < 7; omega)
          have e1 : w7.cell? ⟨gb, 1, none⟩ = some (.int .i64 x.m) := BX7.out.cell (i := 1) (by show 1 < 7; omega)
          have e2 : w7.cell? ⟨gb, 2, none⟩ = some (.int .i64 x.g) := BX7.out.cell (i := 2) (by show 2 < 7; omega)
          have e3 : w7.cell? ⟨gb, 3, none⟩ = some (.int .i64 x.w) := BX7.out.cell (i := 3) (by show 3 < 7; omega)
          have e4 : w7.cell? ⟨gb, 4, none⟩ = some (.int .i64 x.s) := BX7.out.cell (i := 4) (by show 4 < 7; omega)
          have e5 : w7.cell? ⟨gb, 5, none⟩ = some (.int .i64 x.p) := BX7.out.cell (i := 5) (by show 5 < 7; omega)
          have e6 : w7.cell? ⟨gb, 6, none⟩ = some (.int .i64 x.q) := BX7.out.cell (i := 6) (by show 6 < 7; omega)
          have k0 : w7.cell? ⟨gy, 0, none⟩ = some (.int .i64 y.id) := BY7.out.cell (i := 0) (by show 0 < 4; omega)
          have k1 : w7.cell? ⟨gy, 1, none⟩ = some (.int .i64 y.mat) := BY7.out.cell (i := 1) (by show 1 < 4; omega)
          have k2 : w7.cell? ⟨gy, 2, none⟩ = some (.int .i64 y.tm) := BY7.out.cell (i := 2) (by show 2 < 4; omega)
          have k3 : w7.cell? ⟨gy, 3, none⟩ = some (.slice a' y.mix.length c') := BY7.out.cell (i := 3) (by show 3 < 4; omega)
          by_cases hf : fitB x g y = true
          case neg =>
            have hf' : fitB x g y = false := by simpa using hf
            have Hco : Hid (costT g l bs q j = -1) := Lib.hid (by unfold costT costB; rw [Hx.out, Hy.out, hf']; rfl)
            rw [hf'] at Hf
            clear hf hf'
            go_wp2_with (go_at_call 15; refine Hf.out.mono ?_; rintro e w8 ⟨rfl, m⟩)
            have M8 := Lib.hid (M7.out.trans m)
            have BX8 := Lib.hid (BX7.out.of_block (m.block _ BX7.out.lt id))
            have RW8 := Lib.hid (RW7.out.mod m fun _ _ => id)
            clear m e0 e1 e2 e3 e4 e5 e6 k0 k1 k2 k3
            go_wp2_with fail
            exact ⟨⟨j + 1, by omega, by go_num, M8.out, BX8.out, by
              have h9 := RW8.out
              rwa [rowV_congr (F' := midF (costT g l bs q) (fun _ => 0) (j + 1)) (fun p _ => by
                by_cases e : p = j
                · rw [if_pos e, e, midF_at, Hco.out]
                · rw [if_neg e, midF_step e])] at h9⟩, by simp [intOf]; omega⟩
          obtain ⟨t2, t0, t1⟩ := tot_fit hf
          have Hco : Hid (costT g l bs q j = missC x (totL y.mix).1) := Lib.hid (by unfold costT costB; rw [Hx.out, Hy.out, hf]; rfl)
          rw [hf] at Hf
          obtain ⟨tt, htt⟩ : ∃ tt, (totL y.mix).1 = tt := ⟨_, rfl⟩
          have Ht := Lib.hid fun (w' : World) (m : Mod NoBlock w7 w') => (show Calls Try.prog 54 #[.slice a' y.mix.length c'] w' fun e w'' => e = .returned (.tuple #[.int .i64 tt, .int .i64 0]) ∧ w' = w'' by
            have := refTotal_any a' c' y.mix F w' (HM7.out.frame m)
            rwa [t2, htt] at this)
          rw [htt] at t0 t1 Hco
          have Hm := Lib.hid fun w' => refMissing_any x tt w' HNx.out t0 (by omega)
          obtain ⟨ms, hms⟩ : ∃ ms, missC x tt = ms := ⟨_, rfl⟩
          rw [hms] at Hm Hco
          clear hf t2 htt hms
          go_upto_region 12 with (go_at_call 15; refine Hf.out.mono ?_; rintro e w8 ⟨rfl, m⟩)
          have M8 := Lib.hid (M7.out.trans m)
          have BX8 := Lib.hid (BX7.out.of_block (m.block _ BX7.out.lt id))
          have RW8 := Lib.hid (RW7.out.mod m fun _ _ => id)
          have k3' := m.cell k3 id
          have Ht8 := Lib.hid (Ht.out w8 m)
          clear m e0 e1 e2 e3 e4 e5 e6 k0 k1 k2 k3 Ht Hf
          go_upto_region 13 with (go_at_call 54; refine Ht8.out.mono ?_; rintro e w9 ⟨rfl, rfl⟩)
          have e0 : w8.cell? ⟨gb, 0, none⟩ = some (.int .i64 x.i) := BX8.out.cell (i := 0) (by show 0 < 7; omega)
          have e1 : w8.cell? ⟨gb, 1, none⟩ = some (.int .i64 x.m) := BX8.out.cell (i := 1) (by show 1 < 7; omega)
          have e2 : w8.cell? ⟨gb, 2, none⟩ = some (.int .i64 x.g) := BX8.out.cell (i := 2) (by show 2 < 7; omega)
          have e3 : w8.cell? ⟨gb, 3, none⟩ = some (.int .i64 x.w) := BX8.out.cell (i := 3) (by show 3 < 7; omega)
          have e4 : w8.cell? ⟨gb, 4, none⟩ = some (.int .i64 x.s) := BX8.out.cell (i := 4) (by show 4 < 7; omega)
          have e5 : w8.cell? ⟨gb, 5, none⟩ = some (.int .i64 x.p) := BX8.out.cell (i := 5) (by show 5 < 7; omega)
          have e6 : w8.cell? ⟨gb, 6, none⟩ = some (.int .i64 x.q) := BX8.out.cell (i := 6) (by show 6 < 7; omega)
          go_wp2_with (go_at_call 38; refine (Hm.out _).mono ?_; rintro e w9 ⟨rfl, m⟩
                       have M9 := Lib.hid (M8.out.trans m)
                       have BX9 := Lib.hid (BX8.out.of_block (m.block _ BX8.out.lt id))
                       have RW9 := Lib.hid (RW8.out.mod m fun _ _ => id)
                       have st1 := (RW9.out.cellAt hjn).1
                       have st2 := (RW9.out.cellAt hjn).2
                       clear m)
          have hset := RW9.out.set (k := j) (v := ms) (F' := midF (costT g l bs q) (fun _ => 0) (j + 1)) (fun _ => by rw [midF_at, Hco.out]) (fun p _ hp => by
            show (if p = j then -1 else midF (costT g l bs q) (fun _ => 0) j p) = _
            rw [if_neg hp]; exact midF_step hp)
          exact ⟨⟨j + 1, by omega, by go_num, M9.out.setCell (p := ⟨gb + 1, j, none⟩) (.inr (by have := Hgb.out; show wo.heap.size ≤ gb + 1; omega)) _, BX9.out.setOther (by show ¬ gb = gb + 1; omega) _, hset⟩, by simp [intOf]; omega⟩
        · obtain rfl : nb = j := by omega
          clear hjn hj
          have RW2 : Hid (Own wp wo.heap.size 3 (some ⟨gb + 1, 0, none⟩) nb (rowV nb (costT g l bs q))) := Lib.hid (by rw [Hgb.out, ← rowV_congr (F := midF (costT g l bs q) (fun _ => 0) nb) (fun j hj => midF_lt hj)]; exact RW.out)
          have Hl2 := Lib.hid (hdrsO_length nb ad rc q)
          have hsz2 := M.out.size
          go_upto_region 16 with (at_builtin; refine wpList_append1 (vs := hdrsO nb ad rc q) rfl (.tmp 53) (.tmp 55) _ rfl HeL.out q 1 (q + 1) 1 [.slice (some ⟨gb + 1, 0, none⟩) nb nb] rfl rfl Hl2.out.symm (by simp) (by omega) ((G.out.cp.own.mod M.out fun _ _ => id).alloc _) (Src.one _ _ _) (by simp [Value.oneCell']) (by simp only [maxLen]; omega) (by omega) (by simp; omega) ?_; intro a5 c5 w8 hown5 hgrow5 hat5)
          have G8 := Lib.hid (G.out.push M.out RW2.out hown5 hgrow5 hat5)
          have hb8 : w8.rowIs gb 28 7 (fun i => (#[.int .i64 x.i, .int .i64 x.m, .int .i64 x.g, .int .i64 x.w, .int .i64 x.s, .int .i64 x.p, .int .i64 x.q] : Array Value).getD i undef) := BX.out.of_block ((hgrow5.block gb (by have := BX.out.lt; simp; omega) (fun e => by have h1 := (G.out.cp.own.lt e.symm).2; have := Hgb.out; omega)).trans (Below.heap_alloc wp _ _ BX.out.lt))
          have e0 : w8.cell? ⟨gb, 0, none⟩ = some (.int .i64 x.i) := hb8.cell (i := 0) (by show 0 < 7; omega)
          have e1 : w8.cell? ⟨gb, 1, none⟩ = some (.int .i64 x.m) := hb8.cell (i := 1) (by show 1 < 7; omega)
          have e2 : w8.cell? ⟨gb, 2, none⟩ = some (.int .i64 x.g) := hb8.cell (i := 2) (by show 2 < 7; omega)
          have e3 : w8.cell? ⟨gb, 3, none⟩ = some (.int .i64 x.w) := hb8.cell (i := 3) (by show 3 < 7; omega)
          have e4 : w8.cell? ⟨gb, 4, none⟩ = some (.int .i64 x.s) := hb8.cell (i := 4) (by show 4 < 7; omega)
          have e5 : w8.cell? ⟨gb, 5, none⟩ = some (.int .i64 x.p) := hb8.cell (i := 5) (by show 5 < 7; omega)
          have e6 : w8.cell? ⟨gb, 6, none⟩ = some (.int .i64 x.q) := hb8.cell (i := 6) (by show 6 < 7; omega)
          clear hb8 hown5 hgrow5 hat5 M RW RW2 BX G hsz2
          have hsz8 := G8.out.cp.mod.size
          have Hl3 := Lib.hid (rowV_length q (skipT l))
          have Hms := Lib.hid fun w' => refMissing_any x 0 w' HNx.out (by omega) (by omega)
          obtain ⟨ms, hms⟩ : ∃ ms, missC x 0 = ms := ⟨_, rfl⟩
          rw [hms] at Hms
          have HS : Hid (skipT l q = ms) := Lib.hid (by unfold skipT; rw [Hx.out, hms])
          clear hms
          go_wp2_with (first
            | (go_at_call 38; refine (Hms.out _).mono ?_; rintro e w9 ⟨rfl, m⟩
               have M9 := Lib.hid m
               have hsz9 := m.size
               clear m)
            | (at_builtin; refine wpList_append1 (vs := rowV q (skipT l)) rfl (.tmp 57) (.tmp 60) _ rfl Hel.out q 1 (q + 1) 1 [.int .i64 ms] rfl rfl Hl3.out.symm (by simp) (by omega) ((G8.out.sk.mod M9.out fun _ _ => id).alloc _) (Src.one _ _ _) (by simp [Value.oneCell']) (by simp only [maxLen]; omega) (by omega) (by simp; omega) ?_; intro a6 c6 w10 hown6 hgrow6 hat6))
          rw [← HS.out] at hown6
          exact ⟨⟨q + 1, a5, c5, _, _, a6, c6, by omega, by go_num, rfl, rfl, G8.out.app M9.out hown6 hgrow6 hat6⟩, by simp [intOf]; omega⟩
    · obtain rfl : n = q := by omega
      go_wp2_with fail
      go_ret2
      exact ⟨a1, c1, ad, rc, aS, cS, rfl, G.out⟩

end Go.Proofs.Ytnacoglfhhenhaa
