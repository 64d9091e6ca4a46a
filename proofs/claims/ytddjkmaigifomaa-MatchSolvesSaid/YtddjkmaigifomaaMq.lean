/-
  match: Proves of the reference.
-/
import Derived.Test.YtddjkmaigifomaaMp
set_option linter.unusedVariables false
set_option linter.unusedSimpArgs false
namespace Go.Proofs.Ytddjkmaigifomaa
open Go.RowKit

set_option maxRecDepth 100000 in
set_option maxHeartbeats 6400000 in
theorem refProves_any {D E F G H9 : Nat → Prop} {w : World} {a b aC aU aV : Option Addr} {c d cC cU cV : Nat} {t : Int} {C : List (List Int)} {sk cols U V : List Int} (h : Mixes D w a C) (hs : Ints E w b sk) (hc : Ints F w aC cols) (hU : Ints G w aU U) (hV : Ints H9 w aV V) :
    Calls Try.prog 17 #[.slice a C.length c, .slice b sk.length d, .agg #[.slice aC cols.length cC, .int .i64 t, .slice aU U.length cU, .slice aV V.length cV]] w (BoolIs (ProOk C sk cols t U V) w) := by
  have m0 := (Mod.refl NoBlock w).alloc (.cells #[.slice aC cols.length cC, .int .i64 t, .slice aU U.length cU, .slice aV V.length cV] 29)
  have hb0 := rowIs_new w #[.slice aC cols.length cC, .int .i64 t, .slice aU U.length cU, .slice aV V.length cV] 29
  have Hval := Lib.hid (refValue_any (c := c) (d := d) (c3 := cC) (h.frame m0) (hs.frame m0) (hc.frame m0))
  have M0 := Lib.hid m0
  have B0 := Lib.hid hb0
  have HC := Lib.hid h
  have HS := Lib.hid hs
  have HU := Lib.hid hU
  have HV := Lib.hid hV
  have lC : C.length ≤ maxLen := h.1
  have lU : U.length ≤ maxLen := hU.1
  have lV : V.length ≤ maxLen := hV.1
  simp only [maxLen] at lC lU lV
  have b00 : (w.alloc (.cells #[.slice aC cols.length cC, .int .i64 t, .slice aU U.length cU, .slice aV V.length cV] 29)).cell? ⟨w.heap.size, 0, none⟩ = some (.slice aC cols.length cC) := hb0.cell (i := 0) (by show 0 < 4; omega)
  clear h hs hc hU hV m0 hb0
  go_enter Try.func17, Try.ntmps17
  go_upto_region 1 with fail
  generalize w.alloc (.cells #[.slice aC cols.length cC, .int .i64 t, .slice aU U.length cU, .slice aV V.length cV] 29) = w1 at Hval M0 B0 b00 ⊢
  go_upto_region 2 with (go_at_call 19; refine Hval.out.mono ?_; rintro e w2 ⟨rfl, hd2⟩)
  have hm2 : Mod NoBlock w1 w2 := (Mod.refl NoBlock w1).drawn hd2
  have M2 := Lib.hid (M0.out.trans hm2)
  have B2 := Lib.hid (B0.out.of_block (hm2.block _ B0.out.lt id))
  clear b00 hm2 hd2 B0 M0 Hval
  have b1 : w2.cell? ⟨w.heap.size, 1, none⟩ = some (.int .i64 t) := B2.out.cell (i := 1) (by show 1 < 4; omega)
  have b2 : w2.cell? ⟨w.heap.size, 2, none⟩ = some (.slice aU U.length cU) := B2.out.cell (i := 2) (by show 2 < 4; omega)
  have b3 : w2.cell? ⟨w.heap.size, 3, none⟩ = some (.slice aV V.length cV) := B2.out.cell (i := 3) (by show 3 < 4; omega)
  have HE := Lib.hid (fun (hp : ProOk C sk cols t U V) => hp.err)
  have HVl := Lib.hid (fun (hp : ProOk C sk cols t U V) => hp.val)
  have HPr := Lib.hid (valM_prob (C := C) (sk := sk) (cols := cols))
  obtain ⟨vv, hvv⟩ : ∃ vv, (valM C sk cols).1 = vv := ⟨_, rfl⟩
  obtain ⟨ve, hve⟩ : ∃ ve, (valM C sk cols).2 = ve := ⟨_, rfl⟩
  rw [hvv] at HVl HPr ⊢
  rw [hve] at HE HPr ⊢
  have Hvv := Lib.hid hvv
  have Hve := Lib.hid hve
  clear hvv hve
  by_cases e0 : ve = 0
  case neg =>
    have e0b : (ve != 0) = true := bne_iff_ne.2 e0
    have Hn := Lib.hid (fun hp => e0 (HE.out hp))
    clear e0
    go_wp2_with fail
    go_ret
    exact BoolIs.no Hn.out M2.out
  obtain ⟨p1, p2, p3, p4⟩ := HPr.out e0
  have HP := Lib.hid (probOk p1)
  have Hcl := Lib.hid p2
  have Her := Lib.hid p3
  have Hve2 := Lib.hid (Hve.out.trans e0)
  subst e0
  clear p1 p2 p3 p4 HPr HE Hve
  by_cases e1 : vv = t
  case neg =>
    have e1b : (vv != t) = true := bne_iff_ne.2 e1
    have Hn := Lib.hid (fun hp => e1 (HVl.out hp))
    clear e1
    go_wp2_with fail
    go_ret
    exact BoolIs.no Hn.out M2.out
  subst e1
  by_cases e2 : U.length = C.length
  case neg =>
    have e2b : ((U.length : Int) != (C.length : Int)) = true := bne_iff_ne.2 (by omega)
    have Hn := Lib.hid (fun (hp : ProOk C sk cols vv U V) => e2 hp.lU)
    clear e2
    go_wp2_with fail
    go_ret
    exact BoolIs.no Hn.out M2.out
  have HlU := Lib.hid e2
  obtain ⟨n, hn⟩ : ∃ n, C.length = n := ⟨_, rfl⟩
  obtain ⟨k, hk⟩ : ∃ k, (rx C 0).length = k := ⟨_, rfl⟩
  rw [hn] at HP Her HlU Hcl lC ⊢
  rw [hk] at HP Her
  rw [e2, hn] at b2 lU ⊢
  have Hn9 := Lib.hid hn
  have Hk9 := Lib.hid hk
  have n24 := HP.out.n24
  have k24 := HP.out.k24
  clear e2 hn hk
  by_cases h0 : n = 0
  · subst h0
    have hC0 : C = [] := List.eq_nil_of_length_eq_zero Hn9.out
    have hU0 : U = [] := List.eq_nil_of_length_eq_zero HlU.out
    have Hiff : Hid (ProOk C sk cols vv U V ↔ V.length = 0) := Lib.hid (by subst hC0; subst hU0; exact ProOk.zero Hve2.out Hvv.out)
    clear hC0 hU0
    by_cases hV0 : V.length = 0
    · have Hy := Lib.hid (Hiff.out.2 hV0)
      rw [hV0] at b3 ⊢
      clear hV0
      go_wp2_with fail
      go_ret
      exact BoolIs.yes Hy.out M2.out
    · have Hn := Lib.hid (fun hp => hV0 (Hiff.out.1 hp))
      have hvb : ((V.length : Int) == 0) = false := beq_eq_false_iff_ne.2 (by omega)
      clear hV0
      go_wp2_with fail
      go_ret
      have h9 := BoolIs.no Hn.out M2.out
      simpa using h9
  have hn0 : 0 < n := by omega
  obtain ⟨br, orr, ar, cr, rfl, _, hr0, _⟩ := (HC.out.frame M2.out).row (k := 0) (by rw [Hn9.out]; exact hn0)
  rw [HP.out.rect.2 0 hn0, Nat.add_zero] at hr0
  have n1' : (0 : Int) < (n : Int) := by omega
  have n2' : ((n : Int) == 0) = false := beq_eq_false_iff_ne.2 (by omega)
  have HUw := Lib.hid (HU.out.frame M2.out.drew)
  have HVw := Lib.hid (HV.out.frame M2.out.drew)
  clear h0
  go_upto_region 6 with fail
  by_cases e3 : V.length = k
  case neg =>
    have e3b : ((V.length : Int) != (k : Int)) = true := bne_iff_ne.2 (by omega)
    have Hn := Lib.hid (fun (hp : ProOk C sk cols vv U V) => e3 (hp.lV.trans Hk9.out))
    clear e3
    first | go_region | fail
    all_goals (go_wp2_with fail; go_ret; exact BoolIs.no Hn.out M2.out.drew)
  have HlV := Lib.hid e3
  rw [e3] at b3 lV ⊢
  clear e3
  by_cases e4 : Ins U
  case neg =>
    have Hn := Lib.hid (fun (hp : ProOk C sk cols vv U V) => e4 hp.iU)
    have hin := refInside_no (c := cU) HUw.out e4
    rw [HlU.out] at hin
    have Hin := Lib.hid hin
    clear e4 hin
    first | (go_region_with (first
      | (go_at_call_of 30 aU; refine Hin.out.mono ?_; rintro e w5 ⟨rfl, rfl⟩))) | fail
    all_goals (go_wp2_with fail; go_ret; exact BoolIs.no Hn.out M2.out.drew)
  have hin := refInside_yes (c := cU) HUw.out e4
  rw [HlU.out] at hin
  have Hin := Lib.hid hin
  have HiU := Lib.hid e4
  clear e4 hin
  by_cases e5 : Ins V
  case neg =>
    have Hn := Lib.hid (fun (hp : ProOk C sk cols vv U V) => e5 hp.iV)
    have hin := refInside_no (c := cV) HVw.out e5
    rw [HlV.out] at hin
    have Hin2 := Lib.hid hin
    clear e5 hin
    first | (go_region_with (first
      | (go_at_call_of 30 aU; refine Hin.out.mono ?_; rintro e w5 ⟨rfl, rfl⟩)
      | (go_at_call_of 30 aV; refine Hin2.out.mono ?_; rintro e w5 ⟨rfl, rfl⟩))) | fail
    all_goals (go_wp2_with fail; go_ret; exact BoolIs.no Hn.out M2.out.drew)
  have hin := refInside_yes (c := cV) HVw.out e5
  rw [HlV.out] at hin
  have Hin2 := Lib.hid hin
  have HiV := Lib.hid e5
  clear e5 hin
  go_cut [62] (fun s62 wx => s62 = .bool false ∧ Hid (wx = w2.drew))
  case first =>
    first | (go_region_with (first
      | (go_at_call_of 30 aU; refine Hin.out.mono ?_; rintro e w5 ⟨rfl, rfl⟩)
      | (go_at_call_of 30 aV; refine Hin2.out.mono ?_; rintro e w5 ⟨rfl, rfl⟩))) | fail
    all_goals (go_wp2_with fail; go_meet; exact ⟨rfl, Lib.hid rfl⟩)
  case rest =>
   obtain ⟨rfl, HWc⟩ := hcut
   rw [HWc.out]
   have HMk : Hid ((∀ j, j < k → ix V j ≤ 0) → (∀ i, i < n → ix U i ≤ ix sk i) → (∀ i, i < n → ∀ j, j < k → ix (rx C i) j ≠ -1 → ix U i + ix V j ≤ ix (rx C i) j) → sumR k (ix V) + sumR n (ix U) = vv → ProOk C sk cols vv U V) := Lib.hid fun q1 q2 q3 q4 =>
     ⟨Hve2.out, Hvv.out, HlU.out.trans Hn9.out.symm, HlV.out.trans Hk9.out.symm, HiU.out, HiV.out, by rw [Hk9.out]; exact q1, by rw [Hn9.out]; exact q2, by rw [Hk9.out, Hn9.out]; exact q3, by rw [Hk9.out, Hn9.out]; exact q4⟩
   have Hv0 : Hid (ProOk C sk cols vv U V → ∀ j, j < k → ix V j ≤ 0) := Lib.hid fun h => by have := h.v0; rwa [Hk9.out] at this
   have Hus : Hid (ProOk C sk cols vv U V → ∀ i, i < n → ix U i ≤ ix sk i) := Lib.hid fun h => by have := h.uS; rwa [Hn9.out] at this
   have Huv : Hid (ProOk C sk cols vv U V → ∀ i, i < n → ∀ j, j < k → ix (rx C i) j ≠ -1 → ix U i + ix V j ≤ ix (rx C i) j) := Lib.hid fun h => by have := h.uv; rwa [Hk9.out, Hn9.out] at this
   have Hsm : Hid (ProOk C sk cols vv U V → sumR k (ix V) + sumR n (ix U) = vv) := Lib.hid fun h => by have := h.sum; rwa [Hk9.out, Hn9.out] at this
   have M3 := Lib.hid M2.out.drew
   have Hvb : Hid (0 ≤ vv ∧ vv ≤ 24000000000) := Lib.hid (by
     obtain ⟨_, q2, q3, q4⟩ := valM_prob Hve2.out
     rw [Hvv.out, Hn9.out] at q4
     have q5 := sumV_bound (cols := cols) HP.out n (Nat.le_refl n) Her.out
     rw [← q4] at q5
     omega)
   clear b1 b2 b3 hr0 Hin Hin2 HUw HVw
   have HB3 := Lib.hid (show w2.drew.rowIs w.heap.size 29 4 (fun i => (#[.slice aC cols.length cC, .int .i64 vv, .slice aU U.length cU, .slice aV V.length cV] : Array Value).getD i undef) from B2.out)
   rw [HlU.out, HlV.out] at HB3
   clear M2 B2
   generalize w2.drew = w3 at M3 HB3 ⊢
   have Hdr : Hid (∀ wr, Drawn w3 wr → wr.cell? ⟨w.heap.size, 2, none⟩ = some (.slice aU n cU) ∧ wr.cell? ⟨w.heap.size, 3, none⟩ = some (.slice aV k cV)) := Lib.hid fun wr h => by
     obtain ⟨kd, rfl⟩ := h
     exact ⟨HB3.out.cell (i := 2) (by show 2 < 4; omega), HB3.out.cell (i := 3) (by show 3 < 4; omega)⟩
   go_wp2_with fail
   go_loopw [7, 9] (fun s i wr => ∃ j : Nat, j ≤ k ∧ i = .int .i64 j ∧ s = .int .i64 (vv - sumR j (ix V)) ∧ (∀ j', j' < j → ix V j' ≤ 0) ∧ Hid (wr = w3)) (fun _ i _ => k - (intOf i).toNat)
   case atStart => exact ⟨0, by omega, rfl, by simp [sumR], fun j' hj => absurd hj (Nat.not_lt_zero j'), Lib.hid rfl⟩
   case round =>
    obtain ⟨j, hj, rfl, rfl, hv, ⟨rfl⟩⟩ := hrel
    have Hv := Lib.hid hv
    clear hv
    obtain ⟨s0, s1⟩ := HiV.out.sum j (by rw [HlV.out]; exact hj)
    obtain ⟨vv0, vv1⟩ := Hvb.out
    obtain ⟨c2, c3⟩ := Hdr.out _ (Drawn.refl w3)
    by_cases hlt : j < k
    · obtain ⟨_, b3, o3, ha3, hc3⟩ := (HV.out.frame M3.out).open
      obtain rfl := ha3 (by intro e; have h9 := HlV.out; rw [e] at h9; simp at h9; omega)
      have d3 := hc3 j (by rw [HlV.out]; exact hlt)
      have j1 : (j : Int) < (k : Int) := by omega
      obtain ⟨x0, x1⟩ := HiV.out j (by rw [HlV.out]; exact hlt)
      have Hs : Hid (sumR (j + 1) (ix V) = sumR j (ix V) + ix V j) := Lib.hid rfl
      clear ha3 hc3
      obtain ⟨x, hx⟩ : ∃ x, ix V j = x := ⟨_, rfl⟩
      rw [hx] at d3 x0 x1 Hs
      have Hx := Lib.hid hx
      clear hx
      generalize sumR j (ix V) = y at s0 s1 Hs ⊢
      have hez : IntKind.i64.wrap (vv - y - x) = vv - y - x := IntWalk.i64_in _ (by omega)
      by_cases hx0 : 0 < x
      · have Hn : Hid (¬ ProOk C sk cols vv U V) := Lib.hid fun hp => by have := Hv0.out hp j hlt; rw [Hx.out] at this; omega
        go_wp2_with fail
        go_ret
        exact BoolIs.no Hn.out M3.out
      · have Hx0 := Lib.hid hx0
        have x2 : x ≤ 0 := by omega
        clear hx0
        go_wp2_with fail
        exact ⟨⟨j + 1, by omega, by go_num, by rw [Hs.out, ← Int.sub_sub], fun j' hj' => by
          by_cases e : j' = j
          · rw [e, Hx.out]; have := Hx0.out; omega
          · exact Hv.out j' (by omega), Lib.hid trivial⟩, by simp [intOf]; omega⟩
    · obtain rfl : k = j := by omega
      clear hlt hj
      obtain ⟨SV, hSV⟩ : ∃ SV, sumR k (ix V) = SV := ⟨_, rfl⟩
      rw [hSV] at s0 s1 HMk Hsm ⊢
      clear hSV
      go_wp2_with fail
      clear c2 c3
      go_loopw [7, 10] (fun s i wr => ∃ q : Nat, q ≤ n ∧ i = .int .i64 q ∧ s = .int .i64 (vv - SV - sumR q (ix U)) ∧ (∀ i, i < q → ix U i ≤ ix sk i) ∧ (∀ i, i < q → ∀ j, j < k → ix (rx C i) j ≠ -1 → ix U i + ix V j ≤ ix (rx C i) j) ∧ Hid (Drawn w3 wr)) (fun _ i _ => n - (intOf i).toNat)
      case atStart => exact ⟨0, by omega, rfl, by simp [sumR], fun j' hj => absurd hj (Nat.not_lt_zero j'), fun j' hj => absurd hj (Nat.not_lt_zero j'), Lib.hid (Drawn.refl w3)⟩
      case round =>
        obtain ⟨q, hq, rfl, rfl, hus, huv, HD⟩ := hrel
        have HU1 := Lib.hid hus
        have HV1 := Lib.hid huv
        clear hus huv
        obtain ⟨wo, rfl⟩ : ∃ wo : World, wo = wr := ⟨_, rfl⟩
        obtain ⟨r0, r1⟩ := HiU.out.sum q (by rw [HlU.out]; exact hq)
        obtain ⟨c2, c3⟩ := Hdr.out _ HD.out
        have Mw := Lib.hid (M3.out.drawn HD.out)
        by_cases hlt : q < n
        · obtain ⟨_, b3, o3, ha3, hc3⟩ := (HU.out.frame Mw.out).open
          obtain rfl := ha3 (by intro e; have h9 := HlU.out; rw [e] at h9; simp at h9; omega)
          have d3 := hc3 q (by rw [HlU.out]; exact hlt)
          obtain ⟨_, b4, o4, ha4, hc4⟩ := (HS.out.frame Mw.out).open
          obtain rfl := ha4 (by intro e; have h9 := HP.out.len; rw [e] at h9; simp at h9; omega)
          have d4 := hc4 q (by rw [HP.out.len]; exact hlt)
          have q1 : (q : Int) < (n : Int) := by omega
          have q2 : (q : Int) < (sk.length : Int) := by rw [HP.out.len]; omega
          obtain ⟨x0, x1⟩ := HiU.out q (by rw [HlU.out]; exact hlt)
          have Hs : Hid (sumR (q + 1) (ix U) = sumR q (ix U) + ix U q) := Lib.hid rfl
          clear ha3 hc3 ha4 hc4
          obtain ⟨x, hx⟩ : ∃ x, ix U q = x := ⟨_, rfl⟩
          rw [hx] at d3 x0 x1 Hs
          have Hx := Lib.hid hx
          clear hx
          obtain ⟨y, hy⟩ : ∃ y, ix sk q = y := ⟨_, rfl⟩
          rw [hy] at d4
          have Hy := Lib.hid hy
          clear hy
          generalize sumR q (ix U) = z at r0 r1 Hs ⊢
          have hez : IntKind.i64.wrap (vv - SV - z - x) = vv - SV - z - x := IntWalk.i64_in _ (by omega)
          by_cases hxy : y < x
          · have Hn : Hid (¬ ProOk C sk cols vv U V) := Lib.hid fun hp => by have := Hus.out hp q hlt; rw [Hx.out, Hy.out] at this; omega
            go_wp2_with (go_quiet (fail))
            go_ret
            exact BoolIs.no Hn.out (Mw.out.drewN _)
          have Hxy := Lib.hid hxy
          have hxy2 : x ≤ y := by omega
          clear hxy
          go_upto_region 19 with (go_quiet (fail))
          have d3' : (wo.drewN nq).cell? ⟨b3, o3 + q, none⟩ = some (.int .i64 x) := d3
          obtain ⟨c2', c3'⟩ := Hdr.out _ (HD.out.trans (Drawn.mk wo nq))
          replace HD := Lib.hid (HD.out.trans (Drawn.mk wo nq))
          clear d3 d4 c2 c3 Mw
          generalize wo.drewN nq = w7 at d3' c2' c3' HD ⊢
          go_wp2_with fail
          clear d3' c2' c3'
          go_loopw [11] (fun i wr => ∃ j : Nat, j ≤ k ∧ i = .int .i64 j ∧ (∀ j', j' < j → ix (rx C q) j' ≠ -1 → x + ix V j' ≤ ix (rx C q) j') ∧ Hid (Drawn w3 wr)) (fun i _ => k - (intOf i).toNat)
          case atStart => exact ⟨0, by omega, rfl, fun j' hj => absurd hj (Nat.not_lt_zero j'), HD⟩
          case round =>
            clear HD
            obtain ⟨j, hj, rfl, hok, HD⟩ := hrel
            have HO := Lib.hid hok
            clear hok
            obtain ⟨wp, rfl⟩ : ∃ wp : World, wp = wr := ⟨_, rfl⟩
            obtain ⟨c2, c3⟩ := Hdr.out _ HD.out
            have Mw := Lib.hid (M3.out.drawn HD.out)
            by_cases hlt2 : j < k
            · obtain ⟨b5, o5, a5, c5, eb5, _, d5, hI5⟩ := (HC.out.frame Mw.out).row (k := q) (by rw [Hn9.out]; exact hlt)
              simp only [Option.some.injEq, Addr.mk.injEq, and_true] at eb5
              obtain ⟨rfl, rfl⟩ := eb5
              rw [HP.out.rect.2 q hlt] at d5
              obtain ⟨_, b6, o6, ha6, hc6⟩ := hI5.open
              obtain rfl := ha6 (by intro e; have h9 := HP.out.rect.2 q hlt; rw [e] at h9; simp at h9; omega)
              have d6 := hc6 j (by rw [HP.out.rect.2 q hlt]; exact hlt2)
              obtain ⟨_, b7, o7, ha7, hc7⟩ := (HV.out.frame Mw.out).open
              obtain rfl := ha7 (by intro e; have h9 := HlV.out; rw [e] at h9; simp at h9; omega)
              have d7 := hc7 j (by rw [HlV.out]; exact hlt2)
              have d8 : wp.cell? ⟨b3, o3 + q, none⟩ = some (.int .i64 x) := by
                obtain ⟨_, b9, o9, ha9, hc9⟩ := (HU.out.frame Mw.out).open
                have e9 := ha9 (by intro e; have h9 := HlU.out; rw [e] at h9; simp at h9; omega)
                simp only [Option.some.injEq, Addr.mk.injEq, and_true] at e9
                obtain ⟨rfl, rfl⟩ := e9
                have := hc9 q (by rw [HlU.out]; exact hlt)
                rwa [Hx.out] at this
              obtain ⟨v0, v1⟩ := HiV.out j (by rw [HlV.out]; exact hlt2)
              obtain ⟨cb0, cb1⟩ := HP.out.cost q hlt j hlt2
              have j1 : (j : Int) < (k : Int) := by omega
              clear ha6 hc6 ha7 hc7 hI5
              obtain ⟨cc, hcc⟩ : ∃ cc, ix (rx C q) j = cc := ⟨_, rfl⟩
              rw [hcc] at d6 cb0 cb1
              have Hcc := Lib.hid hcc
              obtain ⟨vj, hvj⟩ : ∃ vj, ix V j = vj := ⟨_, rfl⟩
              rw [hvj] at d7 v0 v1
              have Hvj := Lib.hid hvj
              have hew : IntKind.i64.wrap (x + vj) = x + vj := IntWalk.i64_in _ (by omega)
              clear hcc hvj
              by_cases hc1 : cc = -1
              · have Hok : Hid (ix (rx C q) j ≠ -1 → x + ix V j ≤ ix (rx C q) j) := Lib.hid fun h => absurd (Hcc.out.trans hc1) h
                subst hc1
                go_wp2_with (go_quiet (fail))
                exact ⟨⟨j + 1, by omega, by go_num, fun j' hj' => by
                  by_cases e : j' = j
                  · rw [e]; exact Hok.out
                  · exact HO.out j' (by omega), Lib.hid (HD.out.trans (Drawn.mk _ _))⟩, by simp [intOf]; omega⟩
              have hc2 : 0 ≤ cc := by omega
              by_cases hs : cc < x + vj
              · have Hn : Hid (¬ ProOk C sk cols vv U V) := Lib.hid fun hp => by have := Huv.out hp q hlt j hlt2 (by rw [Hcc.out]; exact hc1); rw [Hx.out, Hvj.out, Hcc.out] at this; omega
                clear hc1
                go_wp2_with (go_quiet (fail))
                go_ret
                exact BoolIs.no Hn.out (Mw.out.drewN _)
              · have Hok : Hid (ix (rx C q) j ≠ -1 → x + ix V j ≤ ix (rx C q) j) := Lib.hid fun _ => by rw [Hvj.out, Hcc.out]; omega
                have hs2 : x + vj ≤ cc := by omega
                clear hs hc1
                go_wp2_with (go_quiet (fail))
                exact ⟨⟨j + 1, by omega, by go_num, fun j' hj' => by
                  by_cases e : j' = j
                  · rw [e]; exact Hok.out
                  · exact HO.out j' (by omega), Lib.hid (HD.out.trans (Drawn.mk _ _))⟩, by simp [intOf]; omega⟩
            · obtain rfl : k = j := by omega
              go_wp2_with fail
              exact ⟨⟨q + 1, by omega, by go_num, by rw [Hs.out, ← Int.sub_sub], fun i hi => by
                by_cases e : i = q
                · rw [e, Hx.out, Hy.out]; exact hxy2
                · exact HU1.out i (by omega), fun i hi => by
                by_cases e : i = q
                · rw [e, Hx.out]; exact HO.out
                · exact HV1.out i (by omega), HD⟩, by simp [intOf]; omega⟩
        · obtain rfl : n = q := by omega
          clear hlt hq
          by_cases hs : SV + sumR n (ix U) = vv
          · have Hy := Lib.hid (HMk.out Hv.out HU1.out HV1.out hs)
            have hz : vv - SV - sumR n (ix U) = 0 := by omega
            rw [hz]
            clear hs hz
            go_wp2_with fail
            go_ret
            exact BoolIs.yes Hy.out Mw.out
          · have Hn : Hid (¬ ProOk C sk cols vv U V) := Lib.hid fun hp => hs (Hsm.out hp)
            have hsb : (vv - SV - sumR n (ix U) == 0) = false := beq_eq_false_iff_ne.2 (by omega)
            clear hs
            go_wp2_with fail
            go_ret
            exact BoolIs.no Hn.out Mw.out

end Go.Proofs.Ytddjkmaigifomaa
