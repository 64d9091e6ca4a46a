/-
  match: the law MatchSolves walked.
-/
import Derived.Test.YtddjkmaigifomaaMx
import Derived.Test.YtddjkmaigifomaaMr
import Derived.Test.YtddjkmaigifomaaMq
import Derived.Deep.QuietTactic
import Derived.BigQuiet
set_option linter.unusedVariables false
set_option linter.unusedSimpArgs false
namespace Go.Proofs.Ytddjkmaigifomaa
open Go.RowKit

set_option maxRecDepth 100000 in
set_option maxHeartbeats 6400000 in
theorem matchSolves_fin (a : Option Addr) (c : Nat) (C : List (List Int)) {w : World} (hx : Mixes Any w a C) (_ : C.length ≤ c) (_ : ∀ k y, y ∈ rx C k → I64 y) (b : Option Addr) (d : Nat) (sk : List Int) (hs : Ints Any w b sk) (_ : sk.length ≤ d) (_ : ∀ x ∈ sk, I64 x) (_ : World) :
    Calls Try.prog 4 #[.slice a C.length c, .slice b sk.length d] w fun e w' => e = .returned (.bool true) ∧ Mod NoBlock w w' := by
  have HC := Lib.hid hx
  have HS := Lib.hid hs
  clear hx hs
  by_cases hl : Lit C sk
  case neg =>
    have Hl := Lib.hid (light_no (c := c) (d := d) HC.out HS.out hl)
    clear hl
    go_enter Try.func4, Try.ntmps4
    go_wp2_with fail
    refine Hl.out.mono ?_; rintro e w1 ⟨rfl, rfl⟩
    go_wp2_with fail
    refine (awakeM_any _).mono ?_; rintro e w9 ⟨rfl, m⟩
    have M := Lib.hid m
    clear m
    go_wp2_with fail
    go_ret
    exact ⟨rfl, M.out⟩
  have Hl := Lib.hid (light_yes (c := c) (d := d) HC.out HS.out hl)
  clear hl
  by_cases hok : chkM C sk = 0
  case neg =>
    have Hs := Lib.hid (solve_bad (c := c) (d := d) HC.out HS.out hok)
    have Hr := Lib.hid fun (w' : World) (m : Mod NoBlock w w') => refSolve_bad (c := c) (d := d) (HC.out.frame m) (HS.out.frame m) hok
    have hb : (chkM C sk != 0) = true := bne_iff_ne.2 hok
    clear hok
    generalize chkM C sk = ch at Hs Hr hb
    go_enter Try.func4, Try.ntmps4
    go_upto_region 3 with (go_at_call 10; refine Hl.out.mono ?_; rintro e w1 ⟨rfl, rfl⟩)
    go_upto_region 4 with (go_at_call 14; refine Hs.out.mono ?_; rintro e w2 ⟨rfl, m2⟩)
    have m3 := m2.alloc (.cells #[.slice none 0 0, .int .i64 0, .slice none 0 0, .slice none 0 0] 29)
    have HB := Lib.hid (rowIs_new w2 #[.slice none 0 0, .int .i64 0, .slice none 0 0, .slice none 0 0] 29)
    have M3 := Lib.hid m3
    clear m2 m3 Hs Hl
    generalize w2.alloc (.cells #[.slice none 0 0, .int .i64 0, .slice none 0 0, .slice none 0 0] 29) = w3 at HB M3 ⊢
    generalize w2.heap.size = gm at HB ⊢
    have Hr3 := Lib.hid (Hr.out w3 M3.out)
    clear Hr
    go_upto_region 5 with (go_at_call 15; refine Hr3.out.mono ?_; rintro e w4 ⟨rfl, m4⟩)
    have m5 := m4.alloc (.cells #[.slice none 0 0, .int .i64 0, .slice none 0 0, .slice none 0 0] 29)
    have HB2 := Lib.hid (rowIs_new w4 #[.slice none 0 0, .int .i64 0, .slice none 0 0, .slice none 0 0] 29)
    have M5 := Lib.hid (M3.out.trans m5)
    have HB1 := Lib.hid (HB.out.of_block (m5.block _ HB.out.lt id))
    clear m4 m5 Hr3 M3 HB
    generalize w4.alloc (.cells #[.slice none 0 0, .int .i64 0, .slice none 0 0, .slice none 0 0] 29) = w5 at HB1 HB2 M5 ⊢
    generalize w4.heap.size = gk at HB2 ⊢
    have c0 : w5.cell? ⟨gm, 0, none⟩ = some (.slice none 0 0) := HB1.out.cell (i := 0) (by decide)
    have c1 : w5.cell? ⟨gm, 1, none⟩ = some (.int .i64 0) := HB1.out.cell (i := 1) (by decide)
    have c2 : w5.cell? ⟨gm, 2, none⟩ = some (.slice none 0 0) := HB1.out.cell (i := 2) (by decide)
    have c3 : w5.cell? ⟨gm, 3, none⟩ = some (.slice none 0 0) := HB1.out.cell (i := 3) (by decide)
    have k0 : w5.cell? ⟨gk, 0, none⟩ = some (.slice none 0 0) := HB2.out.cell (i := 0) (by decide)
    have k1 : w5.cell? ⟨gk, 1, none⟩ = some (.int .i64 0) := HB2.out.cell (i := 1) (by decide)
    go_wp2_with fail
    refine (rsame10_any none none 0 0 [] [] NoBlock NoBlock _ (Ints.nil _ _ _) (Ints.nil _ _ _)).mono ?_; rintro e w6 ⟨rfl, hd6⟩
    have m6 := (Mod.refl NoBlock w5).drawn hd6
    have HB6 := Lib.hid (HB1.out.of_block (m6.block _ HB1.out.lt id))
    have M6 := Lib.hid (M5.out.trans m6)
    clear c0 c1 c2 c3 k0 k1 hd6 m6 HB1 HB2 M5
    have c2 : w6.cell? ⟨gm, 2, none⟩ = some (.slice none 0 0) := HB6.out.cell (i := 2) (by decide)
    have c3 : w6.cell? ⟨gm, 3, none⟩ = some (.slice none 0 0) := HB6.out.cell (i := 3) (by decide)
    go_wp2_with fail
    refine (awakeM_any _).mono ?_; rintro e w9 ⟨rfl, m⟩
    have M := Lib.hid (M6.out.trans m)
    clear m
    go_wp2_with fail
    go_ret
    exact ⟨rfl, M.out⟩
  have HP := Lib.hid (probOk hok)
  rw [HP.out.len] at Hl ⊢
  have Hs := Lib.hid (solve_sol (n := C.length) (k := (rx C 0).length) (c := c) (d := d) HC.out HS.out hok rfl rfl)
  have Hr := Lib.hid fun (w' : World) (m : Mod NoBlock w w') => refSolve_any (n := C.length) (k := (rx C 0).length) (c := c) (d := d) (HC.out.frame m) (HS.out.frame m) hok rfl rfl
  obtain ⟨n, hn⟩ : ∃ n, C.length = n := ⟨_, rfl⟩
  obtain ⟨k, hk⟩ : ∃ k, (rx C 0).length = k := ⟨_, rfl⟩
  rw [hn] at HP Hs Hl Hr ⊢
  rw [hk] at HP Hs Hr
  have Hn := Lib.hid hn
  clear hok hn hk
  go_enter Try.func4, Try.ntmps4
  go_upto_region 3 with (go_at_call 10; refine Hl.out.mono ?_; rintro e w1 ⟨rfl, rfl⟩)
  go_upto_region 4 with (go_at_call 14; refine Hs.out.mono ?_; rintro e w2 ⟨t, wf, cols, U, V, aC, cC, aU, cU, aV, cV, rfl, m2, hsol, hC, hU, hV⟩)
  have m3 := m2.alloc (.cells #[.slice aC n cC, .int .i64 t, .slice aU n cU, .slice aV k cV] 29)
  have HB := Lib.hid (rowIs_new w2 #[.slice aC n cC, .int .i64 t, .slice aU n cU, .slice aV k cV] 29)
  have HSol := Lib.hid hsol
  have HCc := Lib.hid (hC.alloc (.cells #[.slice aC n cC, .int .i64 t, .slice aU n cU, .slice aV k cV] 29))
  have HUu := Lib.hid (hU.alloc (.cells #[.slice aC n cC, .int .i64 t, .slice aU n cU, .slice aV k cV] 29))
  have HVv := Lib.hid (hV.alloc (.cells #[.slice aC n cC, .int .i64 t, .slice aU n cU, .slice aV k cV] 29))
  have M3 := Lib.hid m3
  clear m2 m3 hsol hC hU hV Hs Hl
  generalize w2.alloc (.cells #[.slice aC n cC, .int .i64 t, .slice aU n cU, .slice aV k cV] 29) = w3 at HB HCc HUu HVv M3 ⊢
  generalize w2.heap.size = gm at HB ⊢
  have Hr3 := Lib.hid (Hr.out w3 M3.out)
  clear Hr
  go_upto_region 5 with (go_at_call 15; refine Hr3.out.mono ?_; rintro e w4 ⟨t', wf', aC', cC', aU', nU', cU', aV', nV', cV', rfl, m4, hF', hC'⟩)
  obtain ⟨rfl, hcol⟩ := HSol.out.first.col hF'
  rw [← hcol, ← HSol.out.eC] at hC'
  have m5 := m4.alloc (.cells #[.slice aC' n cC', .int .i64 t, .slice aU' nU' cU', .slice aV' nV' cV'] 29)
  have HB2 := Lib.hid (rowIs_new w4 #[.slice aC' n cC', .int .i64 t, .slice aU' nU' cU', .slice aV' nV' cV'] 29)
  have M5 := Lib.hid (M3.out.trans m5)
  have HB1 := Lib.hid (HB.out.of_block (m5.block _ HB.out.lt id))
  have Hsm := rsame10_any aC aC' cC cC' cols cols _ _ _ (HCc.out.frame m5) (hC'.alloc (.cells #[.slice aC' n cC', .int .i64 t, .slice aU' nU' cU', .slice aV' nV' cV'] 29))
  rw [HSol.out.lC, decide_eq_true (rfl : cols = cols)] at Hsm
  have HSm := Lib.hid Hsm
  have HN5 : Hid (∀ w', Mod NoBlock w4 w' → True) := Lib.hid fun _ _ => trivial
  have HC5 := Lib.hid (HCc.out.frame m5)
  have HU5 := Lib.hid (HUu.out.frame m5)
  have HV5 := Lib.hid (HVv.out.frame m5)
  clear m4 m5 Hr3 M3 HB Hsm hF' hcol hC' HN5 HCc HUu HVv
  generalize w4.alloc (.cells #[.slice aC' n cC', .int .i64 t, .slice aU' nU' cU', .slice aV' nV' cV'] 29) = w5 at HB1 HB2 M5 HSm HC5 HU5 HV5 ⊢
  generalize w4.heap.size = gk at HB2 ⊢
  have c0 : w5.cell? ⟨gm, 0, none⟩ = some (.slice aC n cC) := HB1.out.cell (i := 0) (by show 0 < 4; omega)
  have c1 : w5.cell? ⟨gm, 1, none⟩ = some (.int .i64 t) := HB1.out.cell (i := 1) (by show 1 < 4; omega)
  have k0 : w5.cell? ⟨gk, 0, none⟩ = some (.slice aC' n cC') := HB2.out.cell (i := 0) (by show 0 < 4; omega)
  have k1 : w5.cell? ⟨gk, 1, none⟩ = some (.int .i64 t) := HB2.out.cell (i := 1) (by show 1 < 4; omega)
  go_wp2_with fail
  refine HSm.out.mono ?_; rintro e w6 ⟨rfl, hd6⟩
  have m6 := (Mod.refl NoBlock w5).drawn hd6
  have HB6 := Lib.hid (HB1.out.of_block (m6.block _ HB1.out.lt id))
  have M6 := Lib.hid (M5.out.trans m6)
  have hprv := refProves_any (c := c) (d := d) (cC := cC) (cU := cU) (cV := cV) (t := t) (HC.out.frame M6.out) (HS.out.frame M6.out) (HC5.out.frame m6) (HU5.out.frame m6) (HV5.out.frame m6)
  rw [Hn.out, HP.out.len, HSol.out.lC, HSol.out.lU, HSol.out.lV] at hprv
  have Hprv := Lib.hid hprv
  clear c0 c1 k0 k1 hd6 m6 HB1 HB2 M5 hprv HC5 HU5 HV5
  have c0 : w6.cell? ⟨gm, 0, none⟩ = some (.slice aC n cC) := HB6.out.cell (i := 0) (by show 0 < 4; omega)
  have c1 : w6.cell? ⟨gm, 1, none⟩ = some (.int .i64 t) := HB6.out.cell (i := 1) (by show 1 < 4; omega)
  have c2 : w6.cell? ⟨gm, 2, none⟩ = some (.slice aU n cU) := HB6.out.cell (i := 2) (by show 2 < 4; omega)
  have c3 : w6.cell? ⟨gm, 3, none⟩ = some (.slice aV k cV) := HB6.out.cell (i := 3) (by show 3 < 4; omega)
  go_wp2_with fail
  refine Hprv.out.mono ?_; rintro e w7 ⟨r, rfl, hr, m7⟩
  obtain rfl : r = true := hr.2 HSol.out.pr
  have M7 := Lib.hid (M6.out.trans m7)
  clear c0 c1 c2 c3 hr m7
  go_wp2_with fail
  refine (awakeM_any _).mono ?_; rintro e w9 ⟨rfl, m⟩
  have M := Lib.hid (M7.out.trans m)
  clear m
  go_wp2_with fail
  go_ret
  exact ⟨rfl, M.out⟩

end Go.Proofs.Ytddjkmaigifomaa
