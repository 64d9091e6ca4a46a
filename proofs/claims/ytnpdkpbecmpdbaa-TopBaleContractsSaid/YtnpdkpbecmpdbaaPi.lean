/-
  top: the law TopBaleContracts walked.
-/
import Derived.Test.YtnpdkpbecmpdbaaPh
import Derived.Test.YtnpdkpbecmpdbaaKg
import Derived.Test.YtnpdkpbecmpdbaaOpen
import Derived.Deep.QuietTactic
import Derived.BigQuiet
import Derived.Deep.DeepCutAuto
import Derived.Deep.CutBlock
set_option linter.unusedVariables false
set_option linter.unusedSimpArgs false
namespace Go.Proofs.Ytnpdkpbecmpdbaa
open Go.RowKit

set_option maxRecDepth 100000 in
set_option maxHeartbeats 6400000 in
theorem topBale_fin (a : Option Addr) (c : Nat) (l : List Ctr) {w : World} (hx : Ctrs Any w a l) (hc : l.length ≤ c) (aG : Option Addr) (cG : Nat) (g : List (Int × Int)) (hg : Grs Any w aG g) (_ : g.length ≤ cG) (aM : Option Addr) (cM : Nat) (mx : List Int) (hm : Ints Any w aM mx) (_ : mx.length ≤ cM) (_ : ∀ x ∈ mx, I64 x) (size : Int) (_ : I64 size) (kind : Int) (_ : I64 kind) (_ : World) :
    Calls Try.prog 4 #[.slice a l.length c, .slice aG g.length cG, .slice aM mx.length cM, .int .i64 size, .int .i64 kind] w fun e w' => e = .returned (.bool true) ∧ Mod NoBlock w w' := by
  have ll : l.length ≤ maxLen := hx.1
  simp only [maxLen] at ll
  have HL := Lib.hid hx
  have HG := Lib.hid hg
  have HM := Lib.hid hm
  have Hc := Lib.hid hc
  have HG1 := Lib.hid (refGrades_any aG cG g Any w hg)
  have Haw := Lib.hid awake52_any
  clear hx hg hm hc
  by_cases h6 : 6 < (l.length : Int)
  · go_enter Try.func4, Try.ntmps4
    go_wp2_with (go_at_call 15; refine (Haw.out _).mono ?_; rintro e w9 ⟨rfl, m⟩)
    have M := Lib.hid m
    clear m
    go_wp2_with fail
    go_ret
    exact ⟨rfl, M.out⟩
  have g6 : (l.length : Int) ≤ 6 := by omega
  by_cases hg0 : chkG g = 0
  case neg =>
    have hgb : (chkG g != 0) = true := bne_iff_ne.2 hg0
    clear hg0
    generalize chkG g = e0 at HG1 hgb
    go_enter Try.func4, Try.ntmps4
    go_wp2_with (first
      | (go_at_call 14; refine HG1.out.mono ?_; rintro e w1 ⟨rfl, hd⟩; have M1 := Lib.hid ((Mod.refl NoBlock _).drawn hd); clear hd)
      | (go_at_call 15; refine (Haw.out _).mono ?_; rintro e w9 ⟨rfl, m⟩))
    have M := Lib.hid (M1.out.trans m)
    clear m
    go_wp2_with fail
    go_ret
    exact ⟨rfl, M.out⟩
  rw [hg0] at HG1
  clear hg0
  by_cases hs1 : size < 1
  · go_enter Try.func4, Try.ntmps4
    go_wp2_with (first
      | (go_at_call 14; refine HG1.out.mono ?_; rintro e w1 ⟨rfl, hd⟩; have M1 := Lib.hid ((Mod.refl NoBlock _).drawn hd); clear hd)
      | (go_at_call 15; refine (Haw.out _).mono ?_; rintro e w9 ⟨rfl, m⟩))
    have M := Lib.hid (M1.out.trans m)
    clear m
    go_wp2_with fail
    go_ret
    exact ⟨rfl, M.out⟩
  go_enter Try.func4, Try.ntmps4
  go_upto_region 3 with (go_at_call 14; refine HG1.out.mono ?_; rintro e w1 ⟨rfl, hd⟩)
  have M1 := Lib.hid ((Mod.refl NoBlock _).drawn hd)
  have HPr := Lib.hid (press_any (c := cM) (size := size) (kind := kind) (HM.out.drawn hd) (by omega))
  clear hd HG1
  go_upto_region 4 with (go_at_call 16; refine HPr.out.mono ?_; rintro e w2 ⟨aB, cB, bs, aR, nR, cR, er, rfl, m, hb⟩)
  have M2 := Lib.hid (M1.out.trans m)
  clear m HPr M1
  by_cases he : er = 0
  case neg =>
    have heb : (er != 0) = true := bne_iff_ne.2 he
    clear he hb
    go_wp2_with (go_at_call 15; refine (Haw.out _).mono ?_; rintro e w9 ⟨rfl, m⟩)
    have M := Lib.hid (M2.out.trans m)
    clear m
    go_wp2_with fail
    go_ret
    exact ⟨rfl, M.out⟩
  subst he
  have HB := Lib.hid (hb rfl)
  clear hb
  have hb0 : ((0 : Int) != 0) = false := rfl
  by_cases hb6 : 6 < (bs.length : Int)
  · go_wp2_with (go_at_call 15; refine (Haw.out _).mono ?_; rintro e w9 ⟨rfl, m⟩)
    have M := Lib.hid (M2.out.trans m)
    clear m
    go_wp2_with fail
    go_ret
    exact ⟨rfl, M.out⟩
  have Has := Lib.hid (assign_any (c := c) (cG := cG) (cB := cB) (HL.out.frame M2.out) Hc.out (HG.out.frame M2.out) HB.out (by omega))
  go_upto_region 7 with (go_at_call 17; refine Has.out.mono ?_; rintro e w3 ⟨aC, cC, cols, t, rfl, m, hci, hasg⟩)
  have M3 := Lib.hid (M2.out.trans m)
  have HB3 := Lib.hid (HB.out.frame m)
  have HC := Lib.hid hci
  have HA := Lib.hid hasg
  clear m hci hasg Has HB M2
  obtain ⟨ea, hea⟩ : ∃ ea, errA g l bs = ea := ⟨_, rfl⟩
  have HE := Lib.hid hea
  rw [hea]
  clear hea
  by_cases he : ea = 0
  case neg =>
    have heb : (ea != 0) = true := bne_iff_ne.2 he
    clear he
    go_wp2_with (go_at_call 15; refine (Haw.out _).mono ?_; rintro e w9 ⟨rfl, m⟩)
    have M := Lib.hid (M3.out.trans m)
    clear m
    go_wp2_with fail
    go_ret
    exact ⟨rfl, M.out⟩
  subst he
  obtain ⟨hcl, l16, hN, hok, hsum, _⟩ := asg_least HE.out HA.out
  have HCl := Lib.hid hcl
  have HN := Lib.hid hN
  have HOk := Lib.hid hok
  have HS := Lib.hid hsum
  clear hN hok hsum HA HE
  rw [hcl]
  clear hcl
  go_upto_region 13 with fail
  have HL3 := Lib.hid (HL.out.frame M3.out)
  have HG3 := Lib.hid (HG.out.frame M3.out)
  obtain ⟨_, bL, oL, haL, hcL⟩ := HL3.out.open
  obtain ⟨_, bB, oB, haB, hcB⟩ := HB3.out.open
  obtain ⟨_, bC, oC, haC, hcC⟩ := HC.out.open
  have HaL := Lib.hid haL
  have HcL := Lib.hid hcL
  have HaB := Lib.hid haB
  have HcB := Lib.hid hcB
  have HaC := Lib.hid haC
  have HcC := Lib.hid hcC
  clear haL hcL haB hcB haC hcC HL HG HM HL3
  go_wp2_with fail
  go_loopw [17, 18, 75] (fun sv uv iv wr => ∃ (q : Nat) (us : List Int) (aU : Option Addr) (cU : Nat), q ≤ l.length ∧ iv = .int .i64 (q : Int) ∧ sv = .int .i64 (sumR q (valRow g l bs cols)) ∧ uv = .slice aU us.length cU ∧ us.length ≤ q ∧ Own wr w3.heap.size 3 aU cU (us.map (Value.int .i64)) ∧ (∀ u ∈ us, ∃ j, j < q ∧ ix cols j = u) ∧ Mod NoBlock w3 wr) (fun _ _ iv _ => l.length - (intOf iv).toNat)
  case atStart => exact ⟨0, [], none, 0, by omega, rfl, rfl, rfl, Nat.le_refl _, Own.nil _ _ _, (fun u hu => (by cases hu)), Mod.refl _ _⟩
  case round =>
    obtain ⟨q, us, aU, cU, hq, rfl, rfl, rfl, hul, hown, hus, hm⟩ := hrel
    have HU := Lib.hid hown
    have Hus := Lib.hid hus
    have M := Lib.hid hm
    clear hown hus hm
    obtain ⟨wo, rfl⟩ : ∃ wo : World, wo = wr := ⟨_, rfl⟩
    obtain ⟨s0, s1⟩ := sumR_bd (n := q) (f := valRow g l bs cols) (B := 1073741824) fun i hi => valRow_bd (HN.out i (by omega)) (HOk.out i (by omega))
    have s2 : sumR q (valRow g l bs cols) ≤ 17179869184 := by omega
    clear s1
    by_cases hlt : q < l.length
    case neg =>
      have e9 : q = l.length := by omega
      subst e9
      rw [HS.out]
      go_wp2_with (go_at_call 15; refine (Haw.out _).mono ?_; rintro e w9 ⟨rfl, m⟩)
      have M9 := Lib.hid ((M3.out.trans M.out).trans m)
      clear m
      go_wp2_with fail
      go_ret
      exact ⟨rfl, M9.out⟩
    have q1 : (q : Int) < (l.length : Int) := by omega
    obtain rfl := HaL.out (by intro e; rw [e] at hlt; simp at hlt)
    obtain rfl := HaC.out (by intro e; have h9 := HCl.out; rw [e] at h9; simp at h9; omega)
    have kc := M.out.cell (HcC.out q (by rw [HCl.out]; exact hlt)) id
    have HNq := Lib.hid (HN.out q hlt)
    have hokq := HOk.out q hlt
    obtain ⟨k, hk⟩ : ∃ k, ix cols q = k := ⟨_, rfl⟩
    rw [hk] at kc
    have Hk := Lib.hid hk
    obtain ⟨x, hx⟩ : ∃ x, cx l q = x := ⟨_, rfl⟩
    have Hx := Lib.hid hx
    rw [hx] at HNq
    have HcLq := Lib.hid fun (w' : World) (m : Mod NoBlock w3 w') => (HcL.out q hlt).mod m id
    rw [hx] at HcLq
    obtain ⟨sq, hsq⟩ : ∃ sq, sumR q (valRow g l bs cols) = sq := ⟨_, rfl⟩
    rw [hsq] at s0 s2 ⊢
    have HSq := Lib.hid hsq
    clear hsq hx
    by_cases k3 : k = -1
    · subst k3
      obtain ⟨ms, hms⟩ : ∃ ms, missC x 0 = ms := ⟨_, rfl⟩
      have hbd := missC_bd HNq.out (Int.le_refl 0)
      rw [hms] at hbd
      obtain ⟨b0, b1⟩ := hbd
      have HVq : Hid (valRow g l bs cols q = ms) := Lib.hid (by unfold valRow; rw [if_pos Hk.out, Hx.out, hms])
      have Hmi := Lib.hid fun w' => (show Calls Try.prog 23 #[.agg #[.int .i64 x.i, .int .i64 x.m, .int .i64 x.g, .int .i64 x.w, .int .i64 x.s, .int .i64 x.p, .int .i64 x.q], .int .i64 0] w' fun e w'' => e = .returned (.tuple #[.int .i64 ms, .int .i64 0]) ∧ Mod NoBlock w' w'' by
        have := mis_any x 0 w'
        rwa [misC_ok HNq.out (by omega) (by omega), hms] at this)
      obtain ⟨d0, d1, d2, d3, d4, d5, d6⟩ := HcLq.out wo M.out
      clear hms hk hokq
      go_upto_region 29 with (go_at_call 23; refine (Hmi.out _).mono ?_; rintro e w9 ⟨rfl, m⟩)
      have M9 := Lib.hid (M.out.trans m)
      have HU9 := Lib.hid (HU.out.mod m fun _ _ => id)
      clear m d0 d1 d2 d3 d4 d5 d6 kc
      go_wp2_with fail
      exact ⟨⟨q + 1, us, aU, cU, by omega, by go_num, by
        show Value.int IntKind.i64 _ = .int .i64 (sumR q (valRow g l bs cols) + valRow g l bs cols q)
        rw [HSq.out, HVq.out], rfl, by omega, HU9.out, fun u hu => by obtain ⟨j, hj, e⟩ := Hus.out u hu; exact ⟨j, by omega, e⟩, M9.out⟩, by simp [intOf]; omega⟩
    · unfold OkRow at hokq
      rw [Hk.out, Hx.out] at hokq
      obtain ⟨k0, kb', hf, hd⟩ : 0 ≤ k ∧ k < bs.length ∧ fitB x g (bx bs k.toNat) = true ∧ ∀ j, j < q → ix cols j ≠ k := hokq.resolve_left k3
      clear hokq k3 hk
      obtain ⟨kn, rfl⟩ : ∃ kn : Nat, k = (kn : Int) := ⟨k.toNat, by omega⟩
      rw [Int.toNat_natCast] at hf
      have kb : kn < bs.length := by omega
      have kd0 : decide ((kn : Int) < 0) = false := decide_eq_false (by omega)
      have kd1 : decide ((bs.length : Int) ≤ (kn : Int)) = false := decide_eq_false (by omega)
      have kd2 : decide (bs.length ≤ kn) = false := decide_eq_false (by omega)
      have kne : ((kn : Int) != -1) = true := bne_iff_ne.2 (by omega)
      obtain rfl := HaB.out (by intro e; rw [e] at kb; simp at kb)
      have hba := HcB.out kn kb
      obtain ⟨y, hy⟩ : ∃ y, bx bs kn = y := ⟨_, rfl⟩
      rw [hy] at hba hf
      obtain ⟨a', c', e0, e1, e2, e3, hmx⟩ := hba
      have Hy := Lib.hid hy
      have HMx := Lib.hid hmx
      have HE := Lib.hid (show w3.cell? ⟨bB, oB + kn * 4, none⟩ = some (.int .i64 y.id) ∧ w3.cell? ⟨bB, oB + kn * 4 + 1, none⟩ = some (.int .i64 y.mat) ∧ w3.cell? ⟨bB, oB + kn * 4 + 2, none⟩ = some (.int .i64 y.tm) ∧ w3.cell? ⟨bB, oB + kn * 4 + 3, none⟩ = some (.slice a' y.mix.length c') from ⟨e0, e1, e2, e3⟩)
      clear e0 e1 e2 e3 hmx hy
      have hmat : y.mat = x.m := by
        by_cases h : y.mat = x.m
        · exact h
        · rw [fitB_no h] at hf; cases hf
      have hf2 := hf
      rw [fitB_yes hmat, Bool.and_eq_true, decide_eq_true_eq] at hf2
      obtain ⟨ho2, hbt⟩ := hf2
      obtain ⟨p1, hp1⟩ : ∃ p1, (ofG g y.mix x.m).1 = p1 := ⟨_, rfl⟩
      rw [hp1] at hbt
      have hof : ofG g y.mix x.m = (p1, 0) := by rw [← hp1, ← ho2]
      obtain ⟨t2, t0, t1⟩ := tot_fit hf
      obtain ⟨tt, htt⟩ : ∃ tt, (totL y.mix).1 = tt := ⟨_, rfl⟩
      rw [htt] at t0 t1
      obtain ⟨ms, hms⟩ : ∃ ms, missC x tt = ms := ⟨_, rfl⟩
      have hbd := missC_bd HNq.out t0
      rw [hms] at hbd
      obtain ⟨b0, b1⟩ := hbd
      have HVq : Hid (valRow g l bs cols q = ms) := Lib.hid (by unfold valRow; rw [if_neg (by rw [Hk.out]; omega), Hk.out, Int.toNat_natCast, Hx.out, Hy.out]; unfold costB; rw [hf, if_pos rfl, htt, hms])
      have Hmi := Lib.hid fun w' => (show Calls Try.prog 23 #[.agg #[.int .i64 x.i, .int .i64 x.m, .int .i64 x.g, .int .i64 x.w, .int .i64 x.s, .int .i64 x.p, .int .i64 x.q], .int .i64 tt] w' fun e w'' => e = .returned (.tuple #[.int .i64 ms, .int .i64 0]) ∧ Mod NoBlock w' w'' by
        have := mis_any x tt w'
        rwa [misC_ok HNq.out t0 (by omega), hms] at this)
      have hints : Ints Any wo aU us := HU.out.ints (fun _ _ _ => trivial) (by simp only [maxLen]; omega)
      have HT := Lib.hid (show ∀ z : KeptT wo, Calls Try.prog 18 #[.slice aU us.length cU, .int .i64 (kn : Int)] z.w fun e w' => e = .returned (.int .i64 0) ∧ Mod NoBlock z.w w' from fun z => (times_any (hints.frame z.mod) fun k' hk' => by
          obtain ⟨j, hj, e⟩ := Hus.out (ix us k') (by rw [ix_eq hk']; exact List.getElem_mem hk')
          rw [← e]; exact hd j hj).mono fun e w' h => ⟨h.1, by rw [← h.2]; exact Mod.refl _ _⟩)
      have Hp := Lib.hid fun (z : KeptT wo) => fits_any x y (c := cG) (c2 := c') (HG3.out.frame (M.out.trans z.mod)) (HMx.out.frame (M.out.trans z.mod))
      rw [hf] at Hp
      have Hgr := Lib.hid fun (w' : World) (m : Mod NoBlock w3 w') => balGrams_any y (c2 := c') (HMx.out.frame m)
      rw [t2, htt] at Hgr
      have Hof := Lib.hid fun (w' : World) (m : Mod NoBlock w3 w') => gradeOf_any aG cG g a' c' y.mix x.m Any Any w' (HG3.out.frame m) (HMx.out.frame m)
      rw [hof] at Hof
      have Hbe := Lib.hid fun (w' : World) (m : Mod NoBlock w3 w') => gradeBetter_any aG cG g p1 x.g Any w' (HG3.out.frame m)
      rw [hbt] at Hbe
      have hmb : (y.mat != x.m) = false := by rw [hmat]; simp
      clear hf ho2 hbt hp1 hof t2 htt hms hmat hd hints
      go_upto_region 18 with fail
      have D0 : ∀ z : KeptT wo, z.w.cell? ⟨bL, oL + q * 7, none⟩ = some (.int .i64 x.i) := fun z => by have h9 := HcLq.out z.w (M.out.trans z.mod); exact h9.1
      have D1 : ∀ z : KeptT wo, z.w.cell? ⟨bL, oL + q * 7 + 1, none⟩ = some (.int .i64 x.m) := fun z => by have h9 := HcLq.out z.w (M.out.trans z.mod); exact h9.2.1
      have D2 : ∀ z : KeptT wo, z.w.cell? ⟨bL, oL + q * 7 + 2, none⟩ = some (.int .i64 x.g) := fun z => by have h9 := HcLq.out z.w (M.out.trans z.mod); exact h9.2.2.1
      have D3 : ∀ z : KeptT wo, z.w.cell? ⟨bL, oL + q * 7 + 3, none⟩ = some (.int .i64 x.w) := fun z => by have h9 := HcLq.out z.w (M.out.trans z.mod); exact h9.2.2.2.1
      have D4 : ∀ z : KeptT wo, z.w.cell? ⟨bL, oL + q * 7 + 4, none⟩ = some (.int .i64 x.s) := fun z => by have h9 := HcLq.out z.w (M.out.trans z.mod); exact h9.2.2.2.2.1
      have D5 : ∀ z : KeptT wo, z.w.cell? ⟨bL, oL + q * 7 + 5, none⟩ = some (.int .i64 x.p) := fun z => by have h9 := HcLq.out z.w (M.out.trans z.mod); exact h9.2.2.2.2.2.1
      have D6 : ∀ z : KeptT wo, z.w.cell? ⟨bL, oL + q * 7 + 6, none⟩ = some (.int .i64 x.q) := fun z => by have h9 := HcLq.out z.w (M.out.trans z.mod); exact h9.2.2.2.2.2.2
      have E0 : ∀ z : KeptT wo, z.w.cell? ⟨bB, oB + kn * 4, none⟩ = some (.int .i64 y.id) := fun z => (M.out.trans z.mod).cell HE.out.1 id
      have E1 : ∀ z : KeptT wo, z.w.cell? ⟨bB, oB + kn * 4 + 1, none⟩ = some (.int .i64 y.mat) := fun z => (M.out.trans z.mod).cell HE.out.2.1 id
      have E2 : ∀ z : KeptT wo, z.w.cell? ⟨bB, oB + kn * 4 + 2, none⟩ = some (.int .i64 y.tm) := fun z => (M.out.trans z.mod).cell HE.out.2.2.1 id
      have E3 : ∀ z : KeptT wo, z.w.cell? ⟨bB, oB + kn * 4 + 3, none⟩ = some (.slice a' y.mix.length c') := fun z => (M.out.trans z.mod).cell HE.out.2.2.2 id
      refine wp_region_kept (by kernel_rfl) (by kernel_rfl) ?_
      repeat (go_big_quiet_step (first | (go_at_call 18; exact calls_kept _ (HT.out _)) | (go_at_call 19; exact calls_kept _ (Hp.out _))))
      refine wpQuiet_nil ?_
      rintro w4 ⟨z4, rfl⟩
      have M5 := Lib.hid (M.out.trans z4.mod)
      have HU5 := Lib.hid (HU.out.mod z4.mod fun _ _ => id)
      clear D0 D1 D2 D3 D4 D5 D6 E0 E1 E2 E3 HT Hp kc
      generalize z4.w = w5 at M5 HU5 ⊢
      clear z4
      have hsz := M5.out.size
      go_upto_region 21 with (at_builtin; refine wpList_append1 (vs := us.map (Value.int .i64)) rfl (.tmp 109) (.tmp 111) _ rfl elemInt1 us.length 1 (us.length + 1) 1 [.int .i64 (kn : Int)] rfl rfl (by simp) (by simp) (by omega) (HU5.out.alloc _) (Src.one _ _ _) (by simp [Value.oneCell']) (by simp only [maxLen]; omega) (by omega) (by simp; omega) ?_; intro a3 c3 w6 hown6 hgr6 hbl6)
      have M6 := Lib.hid (((M5.out.alloc _).grown hgr6) (fun k e => .inr (HU5.out.lt e).1))
      have HU6 := Lib.hid (show Own w6 w3.heap.size 3 a3 c3 ((us ++ [(kn : Int)]).map (Value.int .i64)) by rw [List.map_append]; exact hown6)
      clear hown6 hgr6 hbl6 HU5 M5 hsz
      have D1 : ∀ z : KeptT w6, z.w.cell? ⟨bL, oL + q * 7 + 1, none⟩ = some (.int .i64 x.m) := fun z => by have h9 := HcLq.out z.w (M6.out.trans z.mod); exact h9.2.1
      have E3 : ∀ z : KeptT w6, z.w.cell? ⟨bB, oB + kn * 4 + 3, none⟩ = some (.slice a' y.mix.length c') := fun z => (M6.out.trans z.mod).cell HE.out.2.2.2 id
      have Ho := Lib.hid fun (z : KeptT w6) => Hof.out z.w (M6.out.trans z.mod)
      refine wp_region_kept (by kernel_rfl) (by kernel_rfl) ?_
      repeat (go_big_quiet_step ((go_at_call 20; exact calls_kept _ (Ho.out _))))
      refine wpQuiet_nil ?_
      rintro w7' ⟨z7, rfl⟩
      have M7 := Lib.hid (M6.out.trans z7.mod)
      have HU7 := Lib.hid (HU6.out.mod z7.mod fun _ _ => id)
      clear D1 E3 Ho M6 HU6
      generalize z7.w = w7 at M7 HU7 ⊢
      clear z7
      go_upto_region 22 with fail
      have D1 : ∀ z : KeptT w7, z.w.cell? ⟨bL, oL + q * 7 + 1, none⟩ = some (.int .i64 x.m) := fun z => by have h9 := HcLq.out z.w (M7.out.trans z.mod); exact h9.2.1
      have D2 : ∀ z : KeptT w7, z.w.cell? ⟨bL, oL + q * 7 + 2, none⟩ = some (.int .i64 x.g) := fun z => by have h9 := HcLq.out z.w (M7.out.trans z.mod); exact h9.2.2.1
      have E1 : ∀ z : KeptT w7, z.w.cell? ⟨bB, oB + kn * 4 + 1, none⟩ = some (.int .i64 y.mat) := fun z => (M7.out.trans z.mod).cell HE.out.2.1 id
      have Hb := Lib.hid fun (z : KeptT w7) => Hbe.out z.w (M7.out.trans z.mod)
      refine wp_region_kept (by kernel_rfl) (by kernel_rfl) ?_
      repeat (go_big_quiet_step ((go_at_call 21; exact calls_kept _ (Hb.out _))))
      refine wpQuiet_nil ?_
      rintro w8' ⟨z8, rfl⟩
      have M8 := Lib.hid (M7.out.trans z8.mod)
      have HU8 := Lib.hid (HU7.out.mod z8.mod fun _ _ => id)
      clear D1 D2 E1 Hb M7 HU7
      generalize z8.w = w8 at M8 HU8 ⊢
      clear z8
      have e0 := M8.out.cell HE.out.1 id
      have e1 := M8.out.cell HE.out.2.1 id
      have e2 := M8.out.cell HE.out.2.2.1 id
      have e3 := M8.out.cell HE.out.2.2.2 id
      go_upto_region 25 with (go_at_call 22; refine (Hgr.out _ M8.out).mono ?_; rintro e w9 ⟨rfl, m⟩)
      have M9 := Lib.hid (M8.out.trans m)
      have HU9 := Lib.hid (HU8.out.mod m fun _ _ => id)
      clear m e0 e1 e2 e3 M8 HU8
      obtain ⟨d0, d1, d2, d3, d4, d5, d6⟩ := HcLq.out w9 M9.out
      go_upto_region 29 with (go_at_call 23; refine (Hmi.out _).mono ?_; rintro e w10 ⟨rfl, m⟩)
      have M10 := Lib.hid (M9.out.trans m)
      have HU10 := Lib.hid (HU9.out.mod m fun _ _ => id)
      clear m d0 d1 d2 d3 d4 d5 d6 M9 HU9
      go_wp2_with fail
      exact ⟨⟨q + 1, us ++ [(kn : Int)], a3, c3, by omega, by go_num, by
        show Value.int IntKind.i64 _ = .int .i64 (sumR q (valRow g l bs cols) + valRow g l bs cols q)
        rw [HSq.out, HVq.out], by rw [List.length_append]; rfl, by rw [List.length_append]; show us.length + 1 ≤ q + 1; omega, HU10.out, (fun u hu => by
          rcases List.mem_append.1 hu with hu | hu
          · obtain ⟨j, hj, e⟩ := Hus.out u hu; exact ⟨j, by omega, e⟩
          · rw [List.mem_singleton.1 hu]; exact ⟨q, by omega, Hk.out⟩), M10.out⟩, by simp [intOf]; omega⟩

end Go.Proofs.Ytnpdkpbecmpdbaa
