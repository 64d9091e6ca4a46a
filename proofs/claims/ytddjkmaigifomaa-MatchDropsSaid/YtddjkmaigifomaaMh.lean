/-
  match: Proves, where the code answers at once.
-/
import Derived.Test.YtddjkmaigifomaaMg
import Derived.Deep.RegionWith
set_option linter.unusedVariables false
set_option linter.unusedSimpArgs false
namespace Go.Proofs.Ytddjkmaigifomaa
open Go.RowKit

set_option maxRecDepth 100000 in
set_option maxHeartbeats 6400000 in
theorem proves_no {D E F G H9 : Nat → Prop} {w : World} {a b aC aU aV : Option Addr} {c d cC cU cV : Nat} {t : Int} {C : List (List Int)} {sk cols U V : List Int} (h : Mixes D w a C) (hs : Ints E w b sk) (hc : Ints F w aC cols) (hU : Ints G w aU U) (hV : Ints H9 w aV V) (hpre : ¬ PreP C sk cols t U V) :
    Calls Try.prog 20 #[.slice a C.length c, .slice b sk.length d, .agg #[.slice aC cols.length cC, .int .i64 t, .slice aU U.length cU, .slice aV V.length cV]] w (BoolIs (ProOk C sk cols t U V) w) := by
  have m0 := (Mod.refl NoBlock w).alloc (.cells #[.slice aC cols.length cC, .int .i64 t, .slice aU U.length cU, .slice aV V.length cV] 29)
  have hb0 := rowIs_new w #[.slice aC cols.length cC, .int .i64 t, .slice aU U.length cU, .slice aV V.length cV] 29
  have Hval := Lib.hid (value_any (c := c) (d := d) (c3 := cC) (h.frame m0) (hs.frame m0) (hc.frame m0))
  have M0 := Lib.hid m0
  have B0 := Lib.hid hb0
  have HC := Lib.hid h
  have HS := Lib.hid hs
  have HU := Lib.hid hU
  have HV := Lib.hid hV
  have lC : C.length ≤ maxLen := h.1
  have lU : U.length ≤ maxLen := hU.1
  have lV : V.length ≤ maxLen := hV.1
  simp only [maxLen] at lC lU lV
  have b00 : (w.alloc (.cells #[.slice aC cols.length cC, .int .i64 t, .slice aU U.length cU, .slice aV V.length cV] 29)).cell? ⟨w.heap.size, 0, none⟩ = some (.slice aC cols.length cC) := hb0.cell (i := 0) (by show 0 < 4; omega)
  have HNo := Lib.hid hpre
  clear h hs hc hU hV m0 hb0 hpre
  go_enter Try.func20, Try.ntmps20
  go_upto_region 1 with fail
  generalize w.alloc (.cells #[.slice aC cols.length cC, .int .i64 t, .slice aU U.length cU, .slice aV V.length cV] 29) = w1 at Hval M0 B0 b00 ⊢
  go_upto_region 2 with (go_at_call 18; refine Hval.out.mono ?_; rintro e w2 ⟨rfl, hm2⟩)
  have M2 := Lib.hid (M0.out.trans hm2)
  have B2 := Lib.hid (B0.out.of_block (hm2.block _ B0.out.lt id))
  clear b00 hm2 B0 M0 Hval
  have b1 : w2.cell? ⟨w.heap.size, 1, none⟩ = some (.int .i64 t) := B2.out.cell (i := 1) (by show 1 < 4; omega)
  have b2 : w2.cell? ⟨w.heap.size, 2, none⟩ = some (.slice aU U.length cU) := B2.out.cell (i := 2) (by show 2 < 4; omega)
  have b3 : w2.cell? ⟨w.heap.size, 3, none⟩ = some (.slice aV V.length cV) := B2.out.cell (i := 3) (by show 3 < 4; omega)
  have HE := Lib.hid (fun (hp : ProOk C sk cols t U V) => hp.err)
  have HVl := Lib.hid (fun (hp : ProOk C sk cols t U V) => hp.val)
  have HPr := Lib.hid (valM_prob (C := C) (sk := sk) (cols := cols))
  obtain ⟨vv, hvv⟩ : ∃ vv, (valM C sk cols).1 = vv := ⟨_, rfl⟩
  obtain ⟨ve, hve⟩ : ∃ ve, (valM C sk cols).2 = ve := ⟨_, rfl⟩
  rw [hvv] at HVl HPr ⊢
  rw [hve] at HE HPr ⊢
  have Hvv := Lib.hid hvv
  have Hve := Lib.hid hve
  clear hvv hve
  by_cases e0 : ve = 0
  case neg =>
    have e0b : (ve != 0) = true := bne_iff_ne.2 e0
    have Hn := Lib.hid (fun hp => e0 (HE.out hp))
    clear e0
    go_region
    go_wp2_with fail
    go_ret
    exact BoolIs.no Hn.out M2.out.drew
  obtain ⟨p1, p2, p3, p4⟩ := HPr.out e0
  have HP := Lib.hid (probOk p1)
  have Hcl := Lib.hid p2
  have Her := Lib.hid p3
  have Hve2 := Lib.hid (Hve.out.trans e0)
  subst e0
  clear p1 p2 p3 p4 HPr HE Hve
  by_cases e1 : vv = t
  case neg =>
    have e1b : (vv != t) = true := bne_iff_ne.2 e1
    have Hn := Lib.hid (fun hp => e1 (HVl.out hp))
    clear e1
    go_region
    go_wp2_with fail
    go_ret
    exact BoolIs.no Hn.out M2.out.drew
  subst e1
  by_cases e2 : U.length = C.length
  case neg =>
    have e2b : ((U.length : Int) != (C.length : Int)) = true := bne_iff_ne.2 (by omega)
    have Hn := Lib.hid (fun (hp : ProOk C sk cols vv U V) => e2 hp.lU)
    clear e2
    go_region
    go_wp2_with fail
    go_ret
    exact BoolIs.no Hn.out M2.out.drew
  have HlU := Lib.hid e2
  obtain ⟨n, hn⟩ : ∃ n, C.length = n := ⟨_, rfl⟩
  obtain ⟨k, hk⟩ : ∃ k, (rx C 0).length = k := ⟨_, rfl⟩
  rw [hn] at HP Her HlU Hcl lC ⊢
  rw [hk] at HP Her
  rw [e2, hn] at b2 lU ⊢
  have Hn9 := Lib.hid hn
  have Hk9 := Lib.hid hk
  have HUw := Lib.hid (HU.out.frame M2.out.drew)
  have HVw := Lib.hid (HV.out.frame M2.out.drew)
  have Hcol := Lib.hid (columns_any (c := c) (HC.out.frame M2.out.drew) HP.out.rect HP.out.k0)
  clear e2 hn hk
  by_cases e3 : V.length = k
  case neg =>
    have e3b : ((V.length : Int) != (k : Int)) = true := bne_iff_ne.2 (by omega)
    have Hn := Lib.hid (fun (hp : ProOk C sk cols vv U V) => e3 (hp.lV.trans Hk9.out))
    clear e3
    first | (go_region_with (first
      | (go_at_call 22; refine Hcol.out.mono ?_; rintro e w5 ⟨rfl, rfl⟩))) | fail
    all_goals (go_wp2_with fail; go_ret; exact BoolIs.no Hn.out M2.out.drew)
  have HlV := Lib.hid e3
  rw [e3] at b3 lV ⊢
  clear e3
  by_cases e4 : Ins U
  case neg =>
    have Hn := Lib.hid (fun (hp : ProOk C sk cols vv U V) => e4 hp.iU)
    have hin := inside_no (c := cU) HUw.out e4
    rw [HlU.out] at hin
    have Hin := Lib.hid hin
    clear e4 hin
    first | (go_region_with (first
      | (go_at_call 22; refine Hcol.out.mono ?_; rintro e w5 ⟨rfl, rfl⟩)
      | (go_at_call_of 31 aU; refine Hin.out.mono ?_; rintro e w5 ⟨rfl, rfl⟩))) | fail
    all_goals (go_wp2_with fail; go_ret; exact BoolIs.no Hn.out M2.out.drew)
  have hin := inside_yes (c := cU) HUw.out e4
  rw [HlU.out] at hin
  have Hin := Lib.hid hin
  have HiU := Lib.hid e4
  clear e4 hin
  by_cases e5 : Ins V
  case neg =>
    have Hn := Lib.hid (fun (hp : ProOk C sk cols vv U V) => e5 hp.iV)
    have hin := inside_no (c := cV) HVw.out e5
    rw [HlV.out] at hin
    have Hin2 := Lib.hid hin
    clear e5 hin
    first | (go_region_with (first
      | (go_at_call 22; refine Hcol.out.mono ?_; rintro e w5 ⟨rfl, rfl⟩)
      | (go_at_call_of 31 aU; refine Hin.out.mono ?_; rintro e w5 ⟨rfl, rfl⟩)
      | (go_at_call_of 31 aV; refine Hin2.out.mono ?_; rintro e w5 ⟨rfl, rfl⟩))) | fail
    all_goals (go_wp2_with fail; go_ret; exact BoolIs.no Hn.out M2.out.drew)
  exact absurd ⟨Hve2.out, Hvv.out, HlU.out.trans Hn9.out.symm, HlV.out.trans Hk9.out.symm, HiU.out, e5⟩ HNo.out

end Go.Proofs.Ytddjkmaigifomaa
