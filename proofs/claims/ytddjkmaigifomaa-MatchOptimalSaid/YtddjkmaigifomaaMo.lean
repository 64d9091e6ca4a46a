/-
  match: the law MatchOptimal walked.
-/
import Derived.Test.YtddjkmaigifomaaMr
import Derived.Deep.RegionHeld3
import Derived.Deep.RegionWith
import Derived.Deep.QuietTactic
import Derived.BigQuiet
set_option linter.unusedVariables false
set_option linter.unusedSimpArgs false
namespace Go.Proofs.Ytddjkmaigifomaa
open Go.RowKit

set_option maxRecDepth 100000 in
set_option maxHeartbeats 6400000 in
theorem matchOptimal_fin (a : Option Addr) (c : Nat) (C : List (List Int)) {w : World} (hx : Mixes Any w a C) (_ : C.length ≤ c) (_ : ∀ k y, y ∈ rx C k → I64 y) (b : Option Addr) (d : Nat) (sk : List Int) (hs : Ints Any w b sk) (_ : sk.length ≤ d) (_ : ∀ x ∈ sk, I64 x)
    (b3 : Option Addr) (d3 : Nat) (oth : List Int) (hcl : Ints Any w b3 oth) (_ : oth.length ≤ d3) (_ : ∀ x ∈ oth, I64 x) (_ : World) :
    Calls Try.prog 7 #[.slice a C.length c, .slice b sk.length d, .slice b3 oth.length d3] w fun e w' => e = .returned (.bool true) ∧ Mod NoBlock w w' := by
  have HC := Lib.hid hx
  have HS := Lib.hid hs
  have HF := Lib.hid hcl
  clear hx hs hcl
  by_cases hl : Lit C sk
  case neg =>
    have Hl := Lib.hid (light_no (c := c) (d := d) HC.out HS.out hl)
    clear hl
    go_enter Try.func7, Try.ntmps7
    go_wp2_with fail
    refine Hl.out.mono ?_; rintro e w1 ⟨rfl, rfl⟩
    go_wp2_with fail
    refine (awakeM_any _).mono ?_; rintro e w9 ⟨rfl, m⟩
    have M := Lib.hid m
    clear m
    go_wp2_with fail
    go_ret
    exact ⟨rfl, M.out⟩
  have Hl := Lib.hid (light_yes (c := c) (d := d) HC.out HS.out hl)
  clear hl
  by_cases hok : chkM C sk = 0
  case neg =>
    have Hs := Lib.hid (solve_bad (c := c) (d := d) HC.out HS.out hok)
    have hb : (chkM C sk != 0) = true := bne_iff_ne.2 hok
    clear hok
    generalize hch : chkM C sk = ch at Hs hb
    have Hch := Lib.hid hch
    clear hch
    go_enter Try.func7, Try.ntmps7
    go_wp2_with fail
    refine Hl.out.mono ?_; rintro e w1 ⟨rfl, rfl⟩
    go_wp2_with fail
    refine Hs.out.mono ?_; rintro e w2 ⟨rfl, m2⟩
    have m3 := m2.alloc (.cells #[.slice none 0 0, .int .i64 0, .slice none 0 0, .slice none 0 0] 29)
    have Hk := Lib.hid (check_any (c := c) (d := d) (HC.out.frame m3) (HS.out.frame m3))
    rw [Hch.out] at Hk
    have M3 := Lib.hid m3
    clear m2 m3
    go_wp2_with fail
    refine Hk.out.mono ?_; rintro e w4 ⟨rfl, rfl⟩
    go_wp2_with fail
    refine (awakeM_any _).mono ?_; rintro e w9 ⟨rfl, m⟩
    have M := Lib.hid (M3.out.trans m)
    clear m
    go_wp2_with fail
    go_ret
    exact ⟨rfl, M.out⟩
  have HOk := Lib.hid hok
  have HP := Lib.hid (probOk hok)
  rw [HP.out.len] at Hl ⊢
  have Hs := Lib.hid (solve_sol (n := C.length) (k := (rx C 0).length) (c := c) (d := d) HC.out HS.out hok rfl rfl)
  obtain ⟨n, hn⟩ : ∃ n, C.length = n := ⟨_, rfl⟩
  obtain ⟨k, hk⟩ : ∃ k, (rx C 0).length = k := ⟨_, rfl⟩
  rw [hn] at HP Hs Hl ⊢
  rw [hk] at HP Hs
  have n24 := HP.out.n24
  have k24 := HP.out.k24
  have Hn := Lib.hid hn
  have Hk9 := Lib.hid hk
  have lo : oth.length ≤ maxLen := HF.out.1
  simp only [maxLen] at lo
  clear hok hn hk
  go_enter Try.func7, Try.ntmps7
  go_wp2_with fail
  refine Hl.out.mono ?_; rintro e w1 ⟨rfl, rfl⟩
  go_upto_region 4 with (go_at_call 14; refine Hs.out.mono ?_; rintro e w2 ⟨t, wf, cols, U, V, aC, cC, aU, cU, aV, cV, rfl, m2, hsol, hC, hU, hV⟩)
  have m3 := m2.alloc (.cells #[.slice aC n cC, .int .i64 t, .slice aU n cU, .slice aV k cV] 29)
  have HB := Lib.hid (rowIs_new w2 #[.slice aC n cC, .int .i64 t, .slice aU n cU, .slice aV k cV] 29)
  have HSol := Lib.hid hsol
  have HCc := Lib.hid (hC.alloc (.cells #[.slice aC n cC, .int .i64 t, .slice aU n cU, .slice aV k cV] 29))
  have HUu := Lib.hid (hU.alloc (.cells #[.slice aC n cC, .int .i64 t, .slice aU n cU, .slice aV k cV] 29))
  have HVv := Lib.hid (hV.alloc (.cells #[.slice aC n cC, .int .i64 t, .slice aU n cU, .slice aV k cV] 29))
  have M := Lib.hid m3
  clear m2 m3 hsol hC hU hV Hs Hl
  generalize w2.alloc (.cells #[.slice aC n cC, .int .i64 t, .slice aU n cU, .slice aV k cV] 29) = w3 at HB HCc HUu HVv M ⊢
  generalize w2.heap.size = gm at HB ⊢
  have hval := value_any (c := c) (d := d) (c3 := cC) (HC.out.frame M.out) (HS.out.frame M.out) HCc.out
  rw [Hn.out, HP.out.len, HSol.out.lC, HSol.out.val] at hval
  have Hval := Lib.hid hval
  have hprv := fun w' (m : Mod NoBlock w3 w') => proves_any (c := c) (d := d) (cC := cC) (cU := cU) (cV := cV) (t := t) ((HC.out.frame M.out).frame m) ((HS.out.frame M.out).frame m) (HCc.out.frame m) (HUu.out.frame m) (HVv.out.frame m)
  rw [Hn.out, HP.out.len, HSol.out.lC, HSol.out.lU, HSol.out.lV] at hprv
  have Hprv := Lib.hid hprv
  have c0 : w3.cell? ⟨gm, 0, none⟩ = some (.slice aC n cC) := HB.out.cell (i := 0) (by show 0 < 4; omega)
  clear hval hprv
  go_upto_region 7 with (go_at_call 18; refine Hval.out.mono ?_; rintro e w4 ⟨rfl, m4⟩)
  have HB4 := Lib.hid (HB.out.of_block (m4.block _ HB.out.lt id))
  have HCc4 := Lib.hid (HCc.out.frame m4)
  have Hp4 := Lib.hid (Hprv.out w4 m4)
  have M4 := Lib.hid (M.out.trans m4)
  clear c0 m4 HB HCc Hprv M Hval
  have c0 : w4.cell? ⟨gm, 0, none⟩ = some (.slice aC n cC) := HB4.out.cell (i := 0) (by show 0 < 4; omega)
  have c1 : w4.cell? ⟨gm, 1, none⟩ = some (.int .i64 t) := HB4.out.cell (i := 1) (by show 1 < 4; omega)
  have c2 : w4.cell? ⟨gm, 2, none⟩ = some (.slice aU n cU) := HB4.out.cell (i := 2) (by show 2 < 4; omega)
  have c3 : w4.cell? ⟨gm, 3, none⟩ = some (.slice aV k cV) := HB4.out.cell (i := 3) (by show 3 < 4; omega)
  go_wp2_with fail
  refine Hp4.out.mono ?_; rintro e w5 ⟨r, rfl, hr, m5⟩
  obtain rfl : r = true := hr.2 HSol.out.pr
  have HB5 := Lib.hid (HB4.out.of_block (m5.block _ HB4.out.lt id))
  have HCc5 := Lib.hid (HCc4.out.frame m5)
  have M5 := Lib.hid (M4.out.trans m5)
  clear c0 c1 c2 c3 m5 hr Hp4 HB4 HCc4 M4
  have c0 : w5.cell? ⟨gm, 0, none⟩ = some (.slice aC n cC) := HB5.out.cell (i := 0) (by show 0 < 4; omega)
  have hval := value_any (c := c) (d := d) (c3 := d3) (HC.out.frame M5.out) (HS.out.frame M5.out) (HF.out.frame M5.out)
  rw [Hn.out, HP.out.len] at hval
  have Hval := Lib.hid hval
  have Hpr := Lib.hid (valM_prob (C := C) (sk := sk) (cols := oth))
  clear hval
  generalize hv1 : (valM C sk oth).1 = v1 at Hval Hpr
  generalize hv2 : (valM C sk oth).2 = v2 at Hval Hpr
  clear hv1 hv2
  go_upto_region 10 with (go_at_call 18; refine Hval.out.mono ?_; rintro e w6 ⟨rfl, m6⟩)
  have HB6 := Lib.hid (HB5.out.of_block (m6.block _ HB5.out.lt id))
  have HCc6 := Lib.hid (HCc5.out.frame m6)
  have M6 := Lib.hid (M5.out.trans m6)
  clear c0 m6 HB5 HCc5 M5 Hval
  by_cases h2 : v2 = 0
  case neg =>
    have hb : (v2 != 0) = true := bne_iff_ne.2 h2
    clear h2
    go_wp2_with fail
    refine (awakeM_any _).mono ?_; rintro e w9 ⟨rfl, m⟩
    have M := Lib.hid (M6.out.trans m)
    clear m
    go_wp2_with fail
    go_ret
    exact ⟨rfl, M.out⟩
  subst h2
  obtain ⟨_, p2, p3, p4⟩ := Hpr.out rfl
  rw [Hn.out] at p2 p3 p4
  rw [Hk9.out] at p3
  have hbest := HSol.out.first.best HP.out p3
  rw [← p4] at hbest
  obtain ⟨q1, q2⟩ := hbest
  have HQ := Lib.hid q2
  have Hlo := Lib.hid p2
  rw [p2] at lo ⊢
  have c0 : w6.cell? ⟨gm, 0, none⟩ = some (.slice aC n cC) := HB6.out.cell (i := 0) (by show 0 < 4; omega)
  have c1 : w6.cell? ⟨gm, 1, none⟩ = some (.int .i64 t) := HB6.out.cell (i := 1) (by show 1 < 4; omega)
  clear p2 p3 p4 q2 Hpr
  go_wp2_with fail
  clear c0 c1
  by_cases hvt : v1 = t
  case neg =>
    have hvb : (v1 == t) = false := beq_eq_false_iff_ne.2 hvt
    have c1 : w6.cell? ⟨gm, 1, none⟩ = some (.int .i64 t) := HB6.out.cell (i := 1) (by show 1 < 4; omega)
    clear hvt
    go_loopw [13] (fun i wr => i = .int .i64 0 ∧ Hid (wr = w6)) (fun _ _ => 0)
    case atStart => exact ⟨rfl, Lib.hid rfl⟩
    case round =>
      obtain ⟨rfl, ⟨rfl⟩⟩ := hrel
      go_wp2_with fail
      all_goals (refine (awakeM_any _).mono ?_; rintro e w9 ⟨rfl, m⟩; have M := Lib.hid (M6.out.trans m); clear m; go_wp2_with fail; go_ret; exact ⟨rfl, M.out⟩)
  have HQ2 := Lib.hid (HQ.out hvt)
  subst hvt
  clear HQ q1
  have HeC := Lib.hid HSol.out.eC
  go_loopw [13] (fun i wr => ∃ q : Nat, q ≤ n ∧ i = .int .i64 q ∧ (∀ i', i' < q → ix oth i' = colZ k wf i') ∧ Hid (Drawn w6 wr)) (fun i _ => n - (intOf i).toNat)
  case atStart => exact ⟨0, by omega, rfl, fun i hi => absurd hi (Nat.not_lt_zero i), Lib.hid (Drawn.refl w6)⟩
  case round =>
    obtain ⟨q, hq, rfl, hsame, HD⟩ := hrel
    have HSm := Lib.hid hsame
    clear hsame
    obtain ⟨wo, rfl⟩ : ∃ wo : World, wo = wr := ⟨_, rfl⟩
    have hm6 := M6.out.drawn HD.out
    have hb6 : wo.rowIs gm 29 4 (fun i => (#[.slice aC n cC, .int .i64 v1, .slice aU n cU, .slice aV k cV] : Array Value).getD i undef) := by obtain ⟨kd, rfl⟩ := HD.out; exact HB6.out
    have c1 : wo.cell? ⟨gm, 1, none⟩ = some (.int .i64 v1) := hb6.cell (i := 1) (by omega)
    have c0 : wo.cell? ⟨gm, 0, none⟩ = some (.slice aC n cC) := hb6.cell (i := 0) (by omega)
    have HB := Lib.hid hb6
    have Mw := Lib.hid hm6
    clear hm6 hb6
    by_cases hlt : q < n
    · have j1 : (q : Int) < (n : Int) := by omega
      obtain ⟨_, bo, oo, hao, hco⟩ := (HF.out.frame Mw.out).open
      obtain rfl := hao (by intro e; have h9 := Hlo.out; rw [e] at h9; simp at h9; omega)
      have d1 := hco q (by rw [Hlo.out]; exact hlt)
      obtain ⟨_, bc, oc, hac, hcc⟩ := (HCc6.out.drawn HD.out).open
      obtain rfl := hac (by intro e; have h9 := HSol.out.lC; rw [e] at h9; simp at h9; omega)
      have d2 := hcc q (by rw [HSol.out.lC]; exact hlt)
      rw [show ix cols q = colZ k wf q by rw [HeC.out, rowI_ix hlt]] at d2
      have HQ3 := Lib.hid (HQ2.out q hlt HSm.out)
      clear hao hco hac hcc
      obtain ⟨x, hx⟩ : ∃ x, ix oth q = x := ⟨_, rfl⟩
      obtain ⟨y, hy⟩ : ∃ y, colZ k wf q = y := ⟨_, rfl⟩
      rw [hx] at d1 HQ3
      rw [hy] at d2 HQ3
      have Hx := Lib.hid hx
      have Hy := Lib.hid hy
      clear hx hy
      by_cases hxy : x = y
      · have Hxy := Lib.hid hxy
        subst hxy
        go_wp2_with (go_quiet (fail))
        exact ⟨⟨q + 1, by omega, by go_num, fun i hi => by
          by_cases e : i = q
          · rw [e, Hx.out, Hy.out]
          · exact HSm.out i (by omega), Lib.hid (HD.out.trans (Drawn.mk _ _))⟩, by simp [intOf]; omega⟩
      · have hne : (x != y) = true := bne_iff_ne.2 hxy
        have hor := HQ3.out hxy
        clear HQ3 hxy
        go_upto_region 18 with (go_quiet (fail))
        have d1' : (wo.drewN nq).cell? ⟨bo, oo + q, none⟩ = some (.int .i64 x) := d1
        have d2' : (wo.drewN nq).cell? ⟨bc, oc + q, none⟩ = some (.int .i64 y) := d2
        have c0' : (wo.drewN nq).cell? ⟨gm, 0, none⟩ = some (.slice (some ⟨bc, oc, none⟩) n cC) := c0
        have Mw2 := Lib.hid (Mw.out.drewN nq)
        generalize wo.drewN nq = w7 at d1' d2' c0' Mw2 ⊢
        clear d1 d2 c0 c1 HB Mw HD
        by_cases hx1 : x = -1
        · have hx1b : (x == -1) = true := by rw [hx1]; rfl
          clear hor hne hx1
          have D1 : ∀ p : KeptT w7, p.w.cell? ⟨bo, oo + q, none⟩ = some (.int .i64 x) := fun p => p.mod.cell d1' id
          clear d1' d2' c0'
          refine wp_region_kept (by kernel_rfl) (by kernel_rfl) ?_
          repeat (go_big_quiet_step ((go_at_call 13; exact calls_kept _ (awakeM_any _))))
          refine wpQuiet_nil ?_
          rintro w8 ⟨x8, rfl⟩
          have M := Lib.hid (Mw2.out.trans x8.mod)
          clear D1
          go_wp2_with fail
          go_ret
          exact ⟨rfl, M.out⟩
        · have hx2 : (x == -1) = false := beq_eq_false_iff_ne.2 hx1
          have hor2 : 0 ≤ y ∧ y < x := by omega
          obtain ⟨y0, yx⟩ := hor2
          clear hor hx1 hne
          have D1 : ∀ p : KeptT w7, p.w.cell? ⟨bo, oo + q, none⟩ = some (.int .i64 x) := fun p => p.mod.cell d1' id
          have D2 : ∀ p : KeptT w7, p.w.cell? ⟨bc, oc + q, none⟩ = some (.int .i64 y) := fun p => p.mod.cell d2' id
          have D3 : ∀ p : KeptT w7, p.w.cell? ⟨gm, 0, none⟩ = some (.slice (some ⟨bc, oc, none⟩) n cC) := fun p => p.mod.cell c0' id
          clear d1' d2' c0'
          refine wp_region_kept (by kernel_rfl) (by kernel_rfl) ?_
          repeat (go_big_quiet_step ((go_at_call 13; exact calls_kept _ (awakeM_any _))))
          refine wpQuiet_nil ?_
          rintro w8 ⟨x8, rfl⟩
          have M := Lib.hid (Mw2.out.trans x8.mod)
          clear D1 D2 D3
          go_wp2_with fail
          go_ret
          exact ⟨rfl, M.out⟩
    · have j1 : (n : Int) ≤ (q : Int) := by omega
      go_wp2_with fail
      refine (awakeM_any _).mono ?_; rintro e w9 ⟨rfl, m⟩
      have M := Lib.hid (Mw.out.trans m)
      clear m
      go_wp2_with fail
      go_ret
      exact ⟨rfl, M.out⟩

end Go.Proofs.Ytddjkmaigifomaa
