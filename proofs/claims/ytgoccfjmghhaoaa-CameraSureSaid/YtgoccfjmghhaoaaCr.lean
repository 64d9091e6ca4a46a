/-
  camera: the reference's See, a mix that it takes.
-/
import Derived.Test.YtgoccfjmghhaoaaCq
set_option linter.unusedVariables false
set_option linter.unusedSimpArgs false
namespace Go.Proofs.Ytgoccfjmghhaoaa
open Go.RowKit

theorem Mod.undrew {D : Nat → Prop} {w w' : World} (h : Mod D w.drew w') : Mod D w w' := ⟨h.os, h.tape, h.output, h.size, h.block⟩
theorem elemMixes2 : Elem1 Try.prog 33 42 24 := elemMixes

set_option maxRecDepth 100000 in
set_option maxHeartbeats 6400000 in
theorem refSee_ok (ae : Option Addr) (ce : Nat) (rss oss : List (List Int)) (a : Option Addr) (c : Nat) (xs : List Int) (D E : Nat → Prop) (w : World) (he : Cars E w ae rss.length (rx rss) (rx oss)) (hx : Ints D w a xs) (hok : EyeOk rss oss) (h : seeE rss.length xs = 0) :
    Calls Try.prog 18 #[.agg #[.slice ae rss.length ce], .slice a xs.length c] w fun e w' => ∃ a1 c1 a2 c2, e = .returned (.tuple #[.agg #[.slice a1 rss.length c1], .slice a2 (rx rss 0).length c2, .int .i64 0]) ∧
      Mod NoBlock w w' ∧ Cars (fun b => w.heap.size ≤ b) w' a1 rss.length (rx rss) (rx (seeO rss oss xs)) ∧ Mixes (fun b => w.heap.size ≤ b) w' a2 (seeL rss oss xs) := by
  have HE := Lib.hid he
  have HX := Lib.hid hx
  have OK := Lib.hid hok
  obtain ⟨hf, hlen⟩ := seeE_ok h
  obtain ⟨l16, hg⟩ := ok_of_fault hf
  have Hg := Lib.hid hg
  have Hf := Lib.hid hf
  obtain ⟨l1, l4, _, _⟩ := row_ok (hok.rows 0 hok.one)
  have hn1 := hok.one
  have hn16 := hok.few
  clear he hx hok h hf hg
  obtain ⟨N, hN⟩ : ∃ N, (rx rss 0).length = N := ⟨_, rfl⟩
  obtain ⟨n, hn⟩ : ∃ n, rss.length = n := ⟨_, rfl⟩
  rw [hN] at l1 l4
  rw [hn] at hn1 hn16 hlen HE
  have n1 : (1 : Int) ≤ n := by omega
  have n16 : (n : Int) ≤ 16 := by omega
  have N1 : (1 : Int) ≤ N := by omega
  have N4 : (N : Int) ≤ 4 := by omega
  have hmk2 := run_make_row' (P := Try.prog) 42 3 (.int .i64 0) 8 Try.underlying42 infoInt rfl .i64 .i64 n (by omega) (by omega)
  rw [hlen, hn]
  have Hlen := Lib.hid hlen
  have Hn := Lib.hid hn
  have HN := Lib.hid hN
  clear hlen hn hN
  have hm0 : Mod NoBlock w ((w.alloc (.cells #[.slice ae n ce] 37)).alloc (.cells #[.slice none 0 0] 37)) := ((Mod.refl NoBlock w).alloc _).alloc _
  have hbox : ((w.alloc (.cells #[.slice ae n ce] 37)).alloc (.cells #[.slice none 0 0] 37)).rowIs w.heap.size 37 1 (fun i => (#[.slice ae n ce] : Array Value).getD i undef) := (rowIs_new w _ _).alloc _
  have hres : ((w.alloc (.cells #[.slice ae n ce] 37)).alloc (.cells #[.slice none 0 0] 37)).rowIs (w.heap.size + 1) 37 1 (fun i => (#[.slice none 0 0] : Array Value).getD i undef) := by
    have := rowIs_new (w.alloc (.cells #[.slice ae n ce] 37)) #[.slice none 0 0] 37
    simpa using this
  have hsz : ((w.alloc (.cells #[.slice ae n ce] 37)).alloc (.cells #[.slice none 0 0] 37)).heap.size = w.heap.size + 2 := by simp
  have Hm0 := Lib.hid hm0
  have Hbox := Lib.hid hbox
  have Hres := Lib.hid hres
  have Hsz := Lib.hid hsz
  clear hm0 hbox hres hsz
  go_enter Try.func18, Try.ntmps18
  go_wp2_with fail
  generalize (w.alloc (.cells #[.slice ae n ce] 37)).alloc (.cells #[.slice none 0 0] 37) = w0 at Hm0 Hbox Hres Hsz ⊢
  refine (show Calls Try.prog 32 #[.slice a n c] w0 fun e w' => e = .returned (.int .i64 0) ∧ w0 = w' from by
    have := fault_any a c xs D w0 (HX.out.frame Hm0.out)
    rw [Hlen.out, Hf.out] at this
    exact this).mono ?_
  rintro e w1 ⟨rfl, rfl⟩
  have c0 : w0.cell? ⟨w.heap.size, 0, none⟩ = some (.slice ae n ce) := Hbox.out.cell (by omega)
  go_wp2
  clear c0
  go_loopw [8, 9] (fun o i wr => ∃ (k : Nat) (ao : Option Addr) (co : Nat) (g : Nat → Nat), k ≤ N ∧ i = .int .i64 k ∧ o = .slice ao k co ∧ Mod NoBlock w wr ∧ w.heap.size + 2 ≤ wr.heap.size ∧
      wr.rowIs w.heap.size 37 1 (fun i => (#[.slice ae n ce] : Array Value).getD i undef) ∧
      wr.rowIs (w.heap.size + 1) 37 1 (fun i => (#[.slice none 0 0] : Array Value).getD i undef) ∧ OutS wr (w.heap.size + 2) ao co k n g) (fun _ i _ => N - (intOf i).toNat)
  case atStart => exact ⟨0, none, 0, fun _ => 0, by omega, rfl, rfl, Hm0.out, by rw [Hsz.out]; exact Nat.le_refl _, Hbox.out, Hres.out, ⟨Own.nil _ _ _, fun j hj => absurd hj (by omega), fun j j' hj => absurd hj (by omega)⟩⟩
  case round =>
    clear Hm0 Hbox Hres Hsz
    obtain ⟨k, ao, co, g, hk, rfl, rfl, hm, hB, hbx, hrs, hout⟩ := hrel
    have M := Lib.hid hm
    have Hbox := Lib.hid hbx
    have Hres := Lib.hid hrs
    have Hout := Lib.hid hout
    obtain ⟨wo, rfl⟩ : ∃ wo : World, wo = wr := ⟨_, rfl⟩
    have c0 : wo.cell? ⟨w.heap.size, 0, none⟩ = some (.slice ae n ce) := hbx.cell (by omega)
    -- the rates of the first carry
    obtain ⟨b, off, hae, _, hcs⟩ := (HE.out.frame hm).2 (by omega)
    subst hae
    obtain ⟨aR, cR, aO, cO, e1, e2, _, _⟩ := hcs 0 (by omega)
    rw [Nat.zero_mul, Nat.add_zero] at e1
    rw [HN.out] at e1
    clear hm hbx hrs hout hcs e2
    by_cases hlt : k < N
    · have Lk := Lib.hid (show k = (rowsV k g n).length from (rowsV_length k g n).symm)
      have hne0 := Hout.out.own.away (b := w.heap.size) (by omega)
      have hne1 := Hout.out.own.away (b := w.heap.size + 1) (by omega)
      have Hsrc := Lib.hid (show Src ((wo.alloc (.cells (madeCells #[.int .i64 0] n) 3)).alloc (.cells #[.slice (some ⟨wo.heap.size, 0, none⟩) n n] 42)) (some ⟨wo.heap.size + 1, 0, none⟩) [.slice (some ⟨wo.heap.size, 0, none⟩) n n] from by
        have := Src.one (wo.alloc (.cells (madeCells #[.int .i64 0] n) 3)) (.slice (some ⟨wo.heap.size, 0, none⟩) n n) 42
        rw [World.size_alloc] at this
        exact this)
      go_wp2_with (at_builtin; refine wpList_append1 (vs := rowsV k g n) rfl (.tmp 38) (.tmp 42) _ rfl elemMixes k 1 (k + 1) 1 [.slice (some ⟨wo.heap.size, 0, none⟩) n n] rfl rfl Lk.out (by simp) (by omega) ((Hout.out.own.alloc _).alloc _) Hsrc.out (by simp [Value.oneCell']) (by simp only [maxLen]; omega) (by omega) (by simp; omega) ?_
                   intro a4 c4 w4 hown4 hgrow4 hat4
                   have H4 := Lib.hid (Hout.out.step hB hown4 hgrow4 hat4)
                   have hbx4 := Hbox.out.of_block ((hgrow4.block _ (by simp; omega) hne0).trans ((Below.heap_alloc _ _ _ (by simp; omega)).trans (Below.heap_alloc _ _ _ (by omega))))
                   have hrs4 := Hres.out.of_block ((hgrow4.block _ (by simp; omega) hne1).trans ((Below.heap_alloc _ _ _ (by simp; omega)).trans (Below.heap_alloc _ _ _ (by omega))))
                   have hm4 : Mod NoBlock w w4 := ((M.out.alloc _).alloc _).grown hgrow4 fun b hb => .inr (Nat.le_trans (Nat.le_add_right _ 2) (Hout.out.own.lt hb).1)
                   have hs4 := hgrow4.size
                   have hs4' : w.heap.size + 2 ≤ w4.heap.size := Nat.le_trans hB (Nat.le_trans (by simp; omega) hs4)
                   have Hbx4 := Lib.hid hbx4
                   have Hrs4 := Lib.hid hrs4
                   have Hm4 := Lib.hid hm4
                   clear hown4 hgrow4 hat4 hbx4 hrs4 hm4 hs4)
      exact ⟨⟨k + 1, a4, c4, _, by omega, by go_num, rfl, Hm4.out, hs4', Hbx4.out, Hrs4.out, H4.out⟩, by simp [intOf]; omega⟩
    · have hkn : k = N := by omega
      subst hkn
      go_wp2
      have hq := Hout.out.own.head (by intro e; have e2 := congrArg List.length e; rw [rowsV_length] at e2; have e3 : k = 0 := e2; omega)
      obtain ⟨q, e, -, -, -, -⟩ := hq
      subst e
      have hgr := Hout.out.grid (by omega)
      have hB2 := hB
      -- the next eye
      have Hgr := Lib.hid (hgr.mod ((Mod.refl NoBlock wo).alloc (.cells #[.slice none 0 0] 37)) (fun _ _ _ => id))
      replace Hbox := Lib.hid (Hbox.out.alloc (.cells #[.slice none 0 0] 37))
      replace Hres := Lib.hid (Hres.out.alloc (.cells #[.slice none 0 0] 37))
      replace M := Lib.hid (M.out.alloc (.cells #[.slice none 0 0] 37))
      have Hstr := Lib.hid (rowIs_new wo #[.slice none 0 0] 37)
      clear hgr e1 c0 Hout hlt hk hB
      generalize wo.alloc (.cells #[.slice none 0 0] 37) = wa at Hgr Hbox Hres M Hstr ⊢
      generalize wo.heap.size = S at Hgr Hstr hB2 ⊢
      go_loopw [11, 12, 13, 14] (fun i v1 v2 v3 wr => ∃ (i' : Nat) (an : Option Addr) (cn : Nat), i' ≤ n ∧ i = .int .i64 i' ∧ Mod NoBlock w wr ∧ S + 1 ≤ wr.heap.size ∧
          wr.rowIs w.heap.size 37 1 (fun i => (#[.slice (some ⟨b, off, none⟩) n ce] : Array Value).getD i undef) ∧
          wr.rowIs (w.heap.size + 1) 37 1 (fun i => (#[.slice none 0 0] : Array Value).getD i undef) ∧
          wr.rowIs S 37 1 (fun i => (#[.slice an i' cn] : Array Value).getD i undef) ∧ OwnCars wr (S + 1) 68 an cn i' (rx rss) (rx (seeO rss oss xs)) ∧
          GridC wr (w.heap.size + 2) S q k n (fun c j => if j < i' then ix (nextP (rx rss j) (rx oss j) (ix xs j)) c else 0)) (fun i _ _ _ _ => n - (intOf i).toNat)
      case atStart => exact ⟨0, none, 0, by omega, rfl, M.out, Hstr.out.lt, Hbox.out, Hres.out, Hstr.out, OwnCars.nil _ _ _ _ _, Hgr.out.same fun c j _ _ => rfl⟩
      case round =>
        clear Hgr Hbox Hres M Hstr
        clear wa
        obtain ⟨i, an, cn, hi, rfl, hm, hSs, hbx, hrs, hst, ⟨vs, hown, hvals⟩, hgr⟩ := hrel
        obtain ⟨wo, rfl⟩ : ∃ wo : World, wo = wr := ⟨_, rfl⟩
        have M := Lib.hid hm
        have Hbox := Lib.hid hbx
        have Hres := Lib.hid hrs
        have Hstr := Lib.hid hst
        have Hown := Lib.hid hown
        have Hvals := Lib.hid hvals
        have Hgr := Lib.hid hgr
        have c0 : wo.cell? ⟨w.heap.size, 0, none⟩ = some (.slice (some ⟨b, off, none⟩) n ce) := hbx.cell (by omega)
        have c9 : wo.cell? ⟨S, 0, none⟩ = some (.slice an i cn) := hst.cell (by omega)
        clear hm hbx hrs hst hown hvals hgr
        by_cases hlt : i < n
        · have hin : i < rss.length := by rw [Hn.out]; exact hlt
          obtain ⟨b', off', hae, hEb, hcs⟩ := (HE.out.frame M.out).2 (by omega)
          simp only [Option.some.injEq, Addr.mk.injEq, and_true] at hae
          obtain ⟨rfl, rfl⟩ := hae
          obtain ⟨aR, cR, aO, cO, e1, e2, hiR, hiO⟩ := hcs i hlt
          have HiR := Lib.hid hiR
          have HiO := Lib.hid hiO
          obtain ⟨x0, x1⟩ := Hg.out i (by rw [Hlen.out]; exact hlt)
          obtain ⟨_, bx, ox, ha, hcl⟩ := (HX.out.frame M.out).open
          have hcell := hcl i (by rw [Hlen.out]; exact hlt)
          obtain rfl := ha (by intro e; have := Hlen.out; rw [e] at this; simp at this; omega)
          obtain ⟨x, hxd⟩ : ∃ x, ix xs i = x := ⟨_, rfl⟩
          rw [hxd] at hcell x0 x1
          have Hxd := Lib.hid hxd
          have Hokr := Lib.hid (OK.out.rows i hin)
          have Hoko := Lib.hid (OK.out.owed i hin)
          have Hsame := Lib.hid (show (rx rss i).length = k by rw [OK.out.same i hin, HN.out])
          have Hol := Lib.hid (show (rx oss i).length = k by rw [(OK.out.owed i hin).1, Hsame.out])
          rw [Hsame.out] at e1
          rw [Hol.out] at e2
          have HRN := Lib.hid (show ∀ W, Ints E W aR (rx rss i) → Ints E W aO (rx oss i) → Calls Try.prog 33 #[.agg #[.slice aR k cR, .slice aO k cO], .int .i64 x] W fun e w' => ∃ ap cp b1 d1 b2 d2, e = .returned (.tuple #[.slice ap k cp, .agg #[.slice b1 k d1, .slice b2 k d2]]) ∧
              Mod NoBlock W w' ∧ Ints (fun b => W.heap.size ≤ b) w' ap (nextP (rx rss i) (rx oss i) x) ∧ Two w' W.heap.size b1 d1 b2 d2 (rx rss i) (nextO (rx rss i) (rx oss i) x) from fun W h1 h2 => by
            have := refNext_any aR cR aO cO (rx rss i) (rx oss i) x E W h1 h2 Hokr.out Hoko.out x0 x1
            rw [Hsame.out, Hol.out] at this
            exact this)
          have i0 : (0 : Int) ≤ (i : Int) := by omega
          have hbb : b < wo.heap.size := World.block_lt_of_cell? _ _ e1
          have hbx : bx < wo.heap.size := World.block_lt_of_cell? _ _ hcell
          have hbw : w.heap.size < wo.heap.size := by omega
          have i1 : (i : Int) < (n : Int) := by omega
          clear ha hcl hxd hcs hiR hiO
          go_wp2
          go_region_held3 (fun w' => w'.cell? ⟨w.heap.size, 0, none⟩ = some (.slice (some ⟨b, off, none⟩) n ce) ∧ w'.cell? ⟨b, off + i * 2, none⟩ = some (.slice aR k cR) ∧ w'.cell? ⟨b, off + i * 2 + 1, none⟩ = some (.slice aO k cO) ∧ w'.cell? ⟨bx, ox + i, none⟩ = some (.int .i64 x))
            (first
              | go_keep
              | (go_split_ands
                 exact ⟨s0, s1, s2, s3⟩)
              | (go_split_ands
                 exact ⟨((Mod.refl NoBlock w5).alloc _).cell s0 (fun h => h), ((Mod.refl NoBlock w5).alloc _).cell s1 (fun h => h), ((Mod.refl NoBlock w5).alloc _).cell s2 (fun h => h), ((Mod.refl NoBlock w5).alloc _).cell s3 (fun h => h)⟩)
              | (go_split_ands
                 exact ⟨(((Mod.refl (fun b => b = wo.heap.size) w5).set1 0 _).set1 1 _).cell s0 (by simp; omega), (((Mod.refl (fun b => b = wo.heap.size) w5).set1 0 _).set1 1 _).cell s1 (by simp; omega), (((Mod.refl (fun b => b = wo.heap.size) w5).set1 0 _).set1 1 _).cell s2 (by simp; omega), (((Mod.refl (fun b => b = wo.heap.size) w5).set1 0 _).set1 1 _).cell s3 (by simp; omega)⟩))
            (first
              | (go_at_call 33; refine (HRN.out _ (by exact HiR.out) (by exact HiO.out)).mono ?_; rintro e w5 ⟨ap, cp, b1, d1, b2, d2, rfl, hmc, hps, htwo⟩
                 have s0 : w5.cell? ⟨w.heap.size, 0, none⟩ = some (.slice (some ⟨b, off, none⟩) n ce) := hmc.cell (by exact c0) (fun h => h)
                 have s1 : w5.cell? ⟨b, off + i * 2, none⟩ = some (.slice aR k cR) := hmc.cell (by exact e1) (fun h => h)
                 have s2 : w5.cell? ⟨b, off + i * 2 + 1, none⟩ = some (.slice aO k cO) := hmc.cell (by exact e2) (fun h => h)
                 have s3 : w5.cell? ⟨bx, ox + i, none⟩ = some (.int .i64 x) := hmc.cell (by exact hcell) (fun h => h)
                 have hmr : Mod NoBlock wo w5 := hmc.undrew)
              | (go_at_call 33; refine (HRN.out _ (by exact HiR.out.alloc _) (by exact HiO.out.alloc _)).mono ?_; rintro e w5 ⟨ap, cp, b1, d1, b2, d2, rfl, hmc, hps, htwo⟩
                 have hmr : Mod NoBlock wo w5 := ((Mod.refl NoBlock wo).alloc _).trans hmc.undrew
                 have s0 : w5.cell? ⟨w.heap.size, 0, none⟩ = some (.slice (some ⟨b, off, none⟩) n ce) := hmr.cell (by exact c0) (fun h => h)
                 have s1 : w5.cell? ⟨b, off + i * 2, none⟩ = some (.slice aR k cR) := hmr.cell (by exact e1) (fun h => h)
                 have s2 : w5.cell? ⟨b, off + i * 2 + 1, none⟩ = some (.slice aO k cO) := hmr.cell (by exact e2) (fun h => h)
                 have s3 : w5.cell? ⟨bx, ox + i, none⟩ = some (.int .i64 x) := hmr.cell (by exact hcell) (fun h => h)
                 have zb : w5.rowIs wo.heap.size 68 2 (fun i => (#[.slice none 0 0, .slice none 0 0] : Array Value).getD i undef) := (rowIs_new wo #[.slice none 0 0, .slice none 0 0] 68).of_block (hmc.block _ (by simp) (fun h => h))
                 have z0 : w5.cell? ⟨wo.heap.size, 0, Option.none⟩ = some (.slice none 0 0) := zb.cell (by omega)
                 have z2 : w5.frozen? ⟨wo.heap.size, 0, Option.none⟩ = false := zb.frozen 0
                 have z3 : ∀ v, (w5.setCell ⟨wo.heap.size, 0, Option.none⟩ v).frozen? ⟨wo.heap.size, 1, Option.none⟩ = false := fun v => (zb.set 0 v).frozen 1
                 have z4 : ∀ v, (w5.setCell ⟨wo.heap.size, 0, Option.none⟩ v).cell? ⟨wo.heap.size, 1, Option.none⟩ = some (.slice none 0 0) := fun v => (zb.set 0 v).cell (by omega)))
          all_goals first
            | (have hm6 : Mod (fun b => b = wo.heap.size) w5 ((w5.setCell ⟨wo.heap.size, 0, none⟩ (.slice b1 k d1)).setCell ⟨wo.heap.size, 1, none⟩ (.slice b2 k d2)) := ((Mod.refl _ w5).set1 0 _).set1 1 _
               have hY : ((w5.setCell ⟨wo.heap.size, 0, none⟩ (.slice b1 k d1)).setCell ⟨wo.heap.size, 1, none⟩ (.slice b2 k d2)).rowIs wo.heap.size 68 2 (fun i => (#[.slice b1 k d1, .slice b2 k d2] : Array Value).getD i undef) := by
                 refine ((zb.set 0 _).set 1 _).congr fun i hi => ?_
                 rcases (by omega : i = 0 ∨ i = 1) with rfl | rfl <;> rfl
               have hmW : Mod NoBlock wo ((w5.setCell ⟨wo.heap.size, 0, none⟩ (.slice b1 k d1)).setCell ⟨wo.heap.size, 1, none⟩ (.slice b2 k d2)) := (hmr.setCell (p := ⟨wo.heap.size, 0, none⟩) (.inr (Nat.le_refl _)) _).setCell (p := ⟨wo.heap.size, 1, none⟩) (.inr (Nat.le_refl _)) _
               have hP := ((hps.mono (D' := fun b => wo.heap.size + 1 ≤ b) (fun b _ h => by simpa using h)).mod hm6 (fun b _ h e => by omega)).mono (D' := fun b => wo.heap.size ≤ b) (fun b _ h => Nat.le_of_succ_le h)
               have hBB := htwo.ints (D := fun b => wo.heap.size + 1 ≤ b) (fun b h _ => by simpa using h) (by rw [Hsame.out]; simp only [maxLen]; omega) (by rw [nextO_length, Hsame.out]; simp only [maxLen]; omega)
               have hB1 := (hBB.1.mod hm6 (fun b _ h e => by omega)).mono (D' := fun b => wo.heap.size ≤ b) (fun b _ h => Nat.le_of_succ_le h)
               have hB2 := (hBB.2.mod hm6 (fun b _ h e => by omega)).mono (D' := fun b => wo.heap.size ≤ b) (fun b _ h => Nat.le_of_succ_le h)
               clear hBB hm6 zb z0 z2 z3 z4 hmr hps htwo hmc s0 s1 s2 s3
               generalize (w5.setCell ⟨wo.heap.size, 0, none⟩ (.slice b1 k d1)).setCell ⟨wo.heap.size, 1, none⟩ (.slice b2 k d2) = W at hmW hY hP hB1 hB2 ⊢
               obtain ⟨t, ht⟩ : ∃ t, wo.heap.size = t := ⟨_, rfl⟩
               rw [ht] at hY ⊢)
            | (have hY := rowIs_new w5 #[.slice b1 k d1, .slice b2 k d2] 68
               have hmW := hmr.alloc (.cells #[.slice b1 k d1, .slice b2 k d2] 68)
               have hP := (hps.alloc (.cells #[.slice b1 k d1, .slice b2 k d2] 68)).mono (D' := fun b => wo.heap.size ≤ b) (fun b _ h => h)
               have hBB := htwo.ints (D := fun b => wo.heap.size ≤ b) (fun b h _ => h) (by rw [Hsame.out]; simp only [maxLen]; omega) (by rw [nextO_length, Hsame.out]; simp only [maxLen]; omega)
               have hB1 := hBB.1.alloc (.cells #[.slice b1 k d1, .slice b2 k d2] 68)
               have hB2 := hBB.2.alloc (.cells #[.slice b1 k d1, .slice b2 k d2] 68)
               clear hBB hmr hps htwo hmc s0 s1 s2 s3
               generalize w5.alloc (.cells #[.slice b1 k d1, .slice b2 k d2] 68) = W at hmW hY hP hB1 hB2 ⊢
               obtain ⟨t, ht⟩ : ∃ t, w5.heap.size = t := ⟨_, rfl⟩
               have hY : W.rowIs t 68 2 (fun i => (#[.slice b1 k d1, .slice b2 k d2] : Array Value).getD i undef) := by rw [← ht]; exact hY
               rw [ht])
          all_goals
            have y0 : W.cell? ⟨t, 0, none⟩ = some (.slice b1 k d1) := hY.cell (by omega)
            have y1 : W.cell? ⟨t, 1, none⟩ = some (.slice b2 k d2) := hY.cell (by omega)
            have HmW := Lib.hid hmW
            have HP := Lib.hid hP
            have HB1 := Lib.hid hB1
            have HB2 := Lib.hid hB2
            have y2 : W.cell? ⟨S, 0, none⟩ = some (.slice an i cn) := hmW.cell c9 id
            have hsW := hmW.size
            have HownW := Lib.hid (Hown.out.mod hmW (fun _ _ => id))
            have hneS := Hown.out.away (b := S) (Nat.lt_succ_self S)
            have hnan : ∀ b, blockOf an = some b → S + 1 ≤ b ∧ b < wo.heap.size := fun b e => Hown.out.lt e
            clear hY hmW hP hB1 hB2 c0 c9 e1 e2 hcell ht
            go_wp2_with (at_builtin; refine wpList_append2 (n := i) (vs := vs) rfl (.tmp 64) (.tmp 66) _ rfl elemCars (i + 1) 1 (.slice b1 k d1) (.slice b2 k d2) rfl rfl rfl (HownW.out.alloc _) (Src2.one _ _ _ _) ⟨rfl, rfl⟩ (by simp only [maxLen]; omega) (by omega) (by simp; omega) ?_
                         intro a4 c4 w4 hown4 hgrow4 hat4
                         have hb4 := (hgrow4.block S (by simp; omega) hneS).trans (Below.heap_alloc W _ _ (by omega))
                         have hr4 := (Hstr.out.of_block (HmW.out.block S (by omega) id)).of_block hb4
                         have st1 : w4.cell? ⟨S, 0, Option.none⟩ = some (.slice an i cn) := hr4.cell (by omega)
                         have st2 : w4.frozen? ⟨S, 0, Option.none⟩ = false := hr4.frozen 0)
            have hown4' : Own2 w4 (S + 1) 68 a4 c4 (i + 1) (vs ++ [.slice b1 (rx rss i).length d1, .slice b2 (rx (seeO rss oss xs) i).length d2]) := by
              rw [rx_seeO hin, nextO_length, Hsame.out]; exact hown4
            have hB2' := HB2.out
            rw [← Hxd.out, ← rx_seeO hin] at hB2'
            have hcars := OwnCars.snoc (RS := rx rss) (OS := rx (seeO rss oss xs)) (Hvals.out.mod HmW.out fun _ _ _ => id) (HB1.out.mono (D' := fun b => S + 1 ≤ b ∧ some b ≠ blockOf an) fun b _ h => ⟨Nat.le_trans hSs h, fun e => by have := (hnan b e.symm).2; have h : wo.heap.size ≤ b := h; omega⟩)
              (hB2'.mono (D' := fun b => S + 1 ≤ b ∧ some b ≠ blockOf an) fun b _ h => ⟨Nat.le_trans hSs h, fun e => by have := (hnan b e.symm).2; have h : wo.heap.size ≤ b := h; omega⟩) ((Mod.refl NoBlock W).alloc _) hown4' hgrow4 hat4
            have ms : Mod (fun b => b = S) w4 (w4.setCell ⟨S, 0, none⟩ (.slice a4 (i + 1) c4)) := (Mod.refl _ w4).set1 0 _
            have m9 : Mod (fun b => some b = blockOf an ∨ b = S) W (w4.setCell ⟨S, 0, none⟩ (.slice a4 (i + 1) c4)) := (((Mod.refl _ W).alloc _).grown hgrow4 fun b hb => .inl (.inl hb.symm)).setCell (p := ⟨S, 0, none⟩) (.inl (.inr rfl)) _
            have hm9 : Mod NoBlock w (w4.setCell ⟨S, 0, none⟩ (.slice a4 (i + 1) c4)) := (((M.out.trans HmW.out).alloc _).grown hgrow4 fun b hb => .inr (by have := (hnan b hb).1; omega)).setCell (p := ⟨S, 0, none⟩) (.inr (by show w.heap.size ≤ S; omega)) _
            have hcars9 := hcars.mod ms (fun b _ hb e => by omega)
            have hst9 : (w4.setCell ⟨S, 0, none⟩ (.slice a4 (i + 1) c4)).rowIs S 37 1 (fun j => (#[.slice a4 (i + 1) c4] : Array Value).getD j undef) := by
              refine (hr4.set 0 _).congr fun j hj => ?_
              obtain rfl : j = 0 := by omega
              rfl
            have hD9 : ∀ b, (some b = blockOf an ∨ b = S) → S ≤ b ∧ b < wo.heap.size := fun b e => by
              rcases e with e | e
              · have := hnan _ e.symm; omega
              · omega
            have hbx9 := (Hbox.out.of_block (HmW.out.block _ Hbox.out.lt id)).of_block (m9.block w.heap.size (by omega) (fun e => by have := hD9 _ e; omega))
            have hrs9 := (Hres.out.of_block (HmW.out.block _ Hres.out.lt id)).of_block (m9.block (w.heap.size + 1) (by omega) (fun e => by have := hD9 _ e; omega))
            have hgr9 := (Hgr.out.mod HmW.out (fun _ _ _ => id)).mod m9 (fun b h1 h2 e => by have := hD9 _ e; omega)
            have hp9 := HP.out.mod m9 (fun b _ h e => by have := hD9 _ e; have h : wo.heap.size ≤ b := h; omega)
            have hs9 := m9.size
            clear ms m9 hcars hown4 hown4' hgrow4 hat4 hb4 hr4 st1 st2 y0 y1 y2 M Hbox Hres Hstr Hown Hvals Hgr HP HB1 HB2 hB2' HmW HownW
            have Hm9 := Lib.hid hm9
            have Hcars9 := Lib.hid hcars9
            have Hst9 := Lib.hid hst9
            have Hbx9 := Lib.hid hbx9
            have Hrs9 := Lib.hid hrs9
            have Hgr9 := Lib.hid hgr9
            have Hp9 := Lib.hid hp9
            have LnP := Lib.hid (show (nextP (rx rss i) (rx oss i) x).length = k by rw [nextP_length]; exact Hsame.out)
            have HXP := Lib.hid (show ∀ c, ix (nextP (rx rss i) (rx oss i) (ix xs i)) c = ix (nextP (rx rss i) (rx oss i) x) c from fun c => by rw [Hxd.out])
            clear hm9 hcars9 hst9 hbx9 hrs9 hgr9 hp9 hD9 hnan hneS
            generalize nextP (rx rss i) (rx oss i) x = ps at Hp9 LnP HXP
            obtain ⟨_, bp, op, hap, hcp⟩ := Hp9.out.open
            obtain rfl := hap (by intro e; have := LnP.out; rw [e] at this; simp at this; omega)
            have Hcp := Lib.hid hcp
            have hbp : bp < W.heap.size ∨ True := .inr trivial
            clear hcp hap hbp
            go_wp2
            generalize w4.setCell ⟨S, 0, none⟩ (.slice a4 (i + 1) c4) = w9 at Hm9 Hcars9 Hst9 Hbx9 Hrs9 Hgr9 Hp9 Hcp hs9 ⊢
            go_loopw [14] (fun u wr => ∃ c' : Nat, c' ≤ k ∧ u = .int .i64 c' ∧ Mod (fun b => w.heap.size + 2 ≤ b ∧ b < S) w9 wr ∧
                GridC wr (w.heap.size + 2) S q k n (fun c j => if j < i then ix (nextP (rx rss j) (rx oss j) (ix xs j)) c else if j = i ∧ c < c' then ix ps c else 0)) (fun u _ => k - (intOf u).toNat)
            case atStart => exact ⟨0, by omega, rfl, Mod.refl _ _, Hgr9.out.same fun c j _ _ => by
              by_cases hj : j < i
              · rw [if_pos hj, if_pos hj]
              · rw [if_neg hj, if_neg hj, if_neg (by omega)]⟩
            case round =>
              clear Hgr9
              obtain ⟨c', hc', rfl, hm, hgr⟩ := hrel
              have M3 := Lib.hid hm
              have Hgr3 := Lib.hid hgr
              clear hm hgr
              by_cases hlt2 : c' < k
              · have hint := (Hp9.out.mod M3.out (fun b _ h e => by have h : wo.heap.size ≤ b := h; omega))
                obtain ⟨_, bp2, op2, hap2, hcp2⟩ := hint.open
                have hap2 := hap2 (by intro e; have := LnP.out; rw [e] at this; simp at this; omega)
                simp only [Option.some.injEq, Addr.mk.injEq, and_true] at hap2
                obtain ⟨rfl, rfl⟩ := hap2
                have h1 := hcp2 c' (by rw [LnP.out]; exact hlt2)
                obtain ⟨gg, k1, k2, k3, k5, k6, k7⟩ := Hgr3.out.at hlt2 hlt
                have K7 := Lib.hid k7
                obtain ⟨pv, hpv⟩ : ∃ pv, ix ps c' = pv := ⟨_, rfl⟩
                rw [hpv] at h1
                have Hpv := Lib.hid hpv
                have q1 : (0 : Int) ≤ (c' : Int) := by omega
                have q2 : (c' : Int) < (k : Int) := by omega
                clear k7 hpv hcp2 hint
                go_wp2
                go_region
                go_wp2
                refine ⟨⟨c' + 1, by omega, by go_num, (M3.out.setCell (p := ⟨gg, i, none⟩) (.inl ⟨k2, k3⟩) _).drew, GridC.same (F := fun k' j' => if k' = c' ∧ j' = i then pv else _) (K7.out pv) fun c j _ _ => ?_⟩, by simp [intOf]; omega⟩
                show (if c = c' ∧ j = i then pv else _) = _
                by_cases hcj : c = c' ∧ j = i
                · obtain ⟨rfl, rfl⟩ := hcj
                  rw [if_pos ⟨rfl, rfl⟩, if_neg (by omega), if_pos ⟨rfl, by omega⟩, Hpv.out]
                · rw [if_neg hcj]
                  by_cases hj : j < i
                  · rw [if_pos hj, if_pos hj]
                  · rw [if_neg hj, if_neg hj]
                    by_cases hd : j = i ∧ c < c'
                    · rw [if_pos hd, if_pos (by omega)]
                    · rw [if_neg hd, if_neg (by omega)]
              · have hck : c' = k := by omega
                subst hck
                have hs3 := M3.out.size
                go_wp2
                refine ⟨⟨i + 1, a4, c4, by omega, by go_num, Hm9.out.step M3.out (fun b hb h => by omega), by omega, Hbx9.out.of_block (M3.out.block _ Hbx9.out.lt (by omega)), Hrs9.out.of_block (M3.out.block _ Hrs9.out.lt (by omega)), Hst9.out.of_block (M3.out.block _ Hst9.out.lt (by omega)), Hcars9.out.mod M3.out (fun b _ h1 h2 => by omega), Hgr3.out.same fun c j hc _ => ?_⟩, by simp [intOf]; omega⟩
                by_cases hj : j < i
                · rw [if_pos hj, if_pos (by omega)]
                · rw [if_neg hj]
                  by_cases hji : j = i
                  · subst hji
                    rw [if_pos ⟨rfl, hc⟩, if_pos (by omega), HXP.out]
                  · rw [if_neg (by omega), if_neg (by omega)]
        · have hin : i = n := by omega
          subst hin
          have b0 : wo.cell? ⟨w.heap.size + 1, 0, none⟩ = some (.slice none 0 0) := Hres.out.cell (by omega)
          have f0 : wo.frozen? ⟨w.heap.size + 1, 0, none⟩ = false := Hres.out.frozen 0
          go_wp2
          have hm6 := M.out.setCell (p := ⟨w.heap.size + 1, 0, none⟩) (.inr (Nat.le_succ _)) (.slice an i cn)
          have hr6 : (wo.setCell ⟨w.heap.size + 1, 0, none⟩ (.slice an i cn)).rowIs (w.heap.size + 1) 37 1 (fun j => (#[.slice an i cn] : Array Value).getD j undef) := by
            refine (Hres.out.set 0 _).congr fun j hj => ?_
            obtain rfl : j = 0 := by omega
            rfl
          have ms : Mod (fun b => b = w.heap.size + 1) wo (wo.setCell ⟨w.heap.size + 1, 0, none⟩ (.slice an i cn)) := (Mod.refl _ wo).set1 0 _
          have hcars6 := OwnCars.mod (c := cn) (a := an) ⟨vs, Hown.out, Hvals.out⟩ ms (fun b _ hb e => by omega)
          have hgr6 := Hgr.out.mod ms (fun b h1 h2 e => by omega)
          generalize wo.setCell ⟨w.heap.size + 1, 0, none⟩ (.slice an i cn) = w6 at hm6 hr6 hcars6 hgr6 ⊢
          have g0 : w6.cell? ⟨w.heap.size + 1, 0, none⟩ = some (.slice an i cn) := hr6.cell (by omega)
          rw [HN.out]
          refine bodyPost_ret (v := .tuple #[.agg #[.slice an i cn], .slice (some ⟨q, 0, none⟩) k co, .int .i64 0]) (by simp [results, Try.results18, go_sem, g0]) rfl ⟨an, cn, some ⟨q, 0, none⟩, co, rfl, hm6, ?_, ?_⟩
          · exact (OwnCars.cars (c := cn) (e := 68) (B := S + 1) hcars6 (by simp only [maxLen]; omega)).mono fun b _ hb => by have : S + 1 ≤ b := hb; omega
          · refine (hgr6.mixes (seeL rss oss xs) (by simp only [maxLen]; omega) (by simp only [maxLen]; omega) (by rw [seeL_length]; exact HN.out) fun c hc => ?_).mono (fun b _ hb => by have : w.heap.size + 2 ≤ b := hb; omega)
            rw [rx_seeL (by rw [HN.out]; exact hc), Hn.out]
            exact ⟨by simp, fun j hj => by rw [ix_range _ _ hj, if_pos hj]⟩

end Go.Proofs.Ytgoccfjmghhaoaa
