/-
  camera: the reference's Next of a carry.
-/
import Derived.Test.YtgoccfjmghhaoaaCi
set_option linter.unusedVariables false
set_option linter.unusedSimpArgs false
namespace Go.Proofs.Ytgoccfjmghhaoaa
open Go.RowKit

set_option maxRecDepth 100000 in
set_option maxHeartbeats 6400000 in
theorem refNext_any (a1 : Option Addr) (c1 : Nat) (a2 : Option Addr) (c2 : Nat) (rs os : List Int) (x : Int) (D : Nat → Prop) (w : World) (h1 : Ints D w a1 rs) (h2 : Ints D w a2 os) (h0 : rowE rs = 0) (ho : OkO rs os) (x0 : 0 ≤ x) (x1 : x ≤ 1073741824) :
    Calls Try.prog 33 #[.agg #[.slice a1 rs.length c1, .slice a2 os.length c2], .int .i64 x] w fun e w' => ∃ ap cp b1 d1 b2 d2, e = .returned (.tuple #[.slice ap rs.length cp, .agg #[.slice b1 rs.length d1, .slice b2 rs.length d2]]) ∧
      Mod NoBlock w w' ∧ Ints (fun b => w.heap.size ≤ b) w' ap (nextP rs os x) ∧ Two w' w.heap.size b1 d1 b2 d2 rs (nextO rs os x) := by
  obtain ⟨l1, l4, hr, hs⟩ := row_ok h0
  have HR := Lib.hid hr
  have Hok := Lib.hid (fun k => okO.units (O := ix os) l1 (fun j hj => (hr j hj).1) (by rw [sumF_ix]; exact hs) ho.2 k)
  have Hlow := Lib.hid (fun P k j => units_low (n := rs.length) (R := ix rs) (O := ix os) P k j)
  have HnO := Lib.hid (show (nextO rs os x).map (Value.int .i64) = rowV rs.length (unitsO rs.length (ix rs) (ix os) (x % 1000).toNat) from rowV_of (nextO_length _ _ _) (fun j h => ix_nextO rs os x h))
  have HnP := Lib.hid (show (nextP rs os x).map (Value.int .i64) = rowV rs.length (unitsP rs.length (ix rs) (ix os) (fun j => x / 1000 * ix rs j) (x % 1000).toNat) from rowV_of (nextP_length _ _ _) (fun j h => ix_nextP rs os x h))
  have LnP := Lib.hid (nextP_length rs os x)
  have Hrs := Lib.hid (rowV_list rs)
  have HA1 := Lib.hid h1
  have HA2 := Lib.hid h2
  rw [ho.1]
  have Hol := Lib.hid ho.1
  have L4 := Lib.hid l4
  have n1 : (1 : Int) ≤ rs.length := by omega
  have n4 : (rs.length : Int) ≤ 4 := by omega
  clear h1 h2 h0 ho hr hs
  have hm0 : Mod NoBlock w (((w.alloc (.cells #[.slice a1 rs.length c1, .slice a2 rs.length c2] 68)).alloc (.cells #[.slice none 0 0, .slice none 0 0] 68)).alloc (.cells #[] 3)) := (((Mod.refl NoBlock w).alloc _).alloc _).alloc _
  have hbox : (((w.alloc (.cells #[.slice a1 rs.length c1, .slice a2 rs.length c2] 68)).alloc (.cells #[.slice none 0 0, .slice none 0 0] 68)).alloc (.cells #[] 3)).rowIs w.heap.size 68 2 (fun i => (#[.slice a1 rs.length c1, .slice a2 rs.length c2] : Array Value).getD i undef) := ((rowIs_new w _ _).alloc _).alloc _
  have hres : (((w.alloc (.cells #[.slice a1 rs.length c1, .slice a2 rs.length c2] 68)).alloc (.cells #[.slice none 0 0, .slice none 0 0] 68)).alloc (.cells #[] 3)).rowIs (w.heap.size + 1) 68 2 (fun i => (#[.slice none 0 0, .slice none 0 0] : Array Value).getD i undef) := by
    have := (rowIs_new (w.alloc (.cells #[.slice a1 rs.length c1, .slice a2 rs.length c2] 68)) #[.slice none 0 0, .slice none 0 0] 68).alloc (.cells #[] 3)
    simpa using this
  have hpa : Own (((w.alloc (.cells #[.slice a1 rs.length c1, .slice a2 rs.length c2] 68)).alloc (.cells #[.slice none 0 0, .slice none 0 0] 68)).alloc (.cells #[] 3)) (w.heap.size + 2) 3 (some ⟨w.heap.size + 2, 0, none⟩) 0 [] := by
    have := Own.fresh ((w.alloc (.cells #[.slice a1 rs.length c1, .slice a2 rs.length c2] 68)).alloc (.cells #[.slice none 0 0, .slice none 0 0] 68)) (w.heap.size + 2) 3 (by simp) #[] (by decide)
    simpa using this
  have hsz : (((w.alloc (.cells #[.slice a1 rs.length c1, .slice a2 rs.length c2] 68)).alloc (.cells #[.slice none 0 0, .slice none 0 0] 68)).alloc (.cells #[] 3)).heap.size = w.heap.size + 3 := by simp
  have hB0 := hbox.cell (i := 0) (by omega)
  have hB0 : (((w.alloc (.cells #[.slice a1 rs.length c1, .slice a2 rs.length c2] 68)).alloc (.cells #[.slice none 0 0, .slice none 0 0] 68)).alloc (.cells #[] 3)).cell? ⟨w.heap.size, 0, none⟩ = some (.slice a1 rs.length c1) := hB0
  have Hm0 := Lib.hid hm0
  have Hbox := Lib.hid hbox
  have Hres := Lib.hid hres
  have Hpa := Lib.hid hpa
  have Hsz := Lib.hid hsz
  have HB0 := Lib.hid hB0
  clear hm0 hbox hres hpa hsz hB0
  go_enter Try.func33, Try.ntmps33
  go_wp2_with fail
  generalize (((w.alloc (.cells #[.slice a1 rs.length c1, .slice a2 rs.length c2] 68)).alloc (.cells #[.slice none 0 0, .slice none 0 0] 68)).alloc (.cells #[] 3)) = w0 at Hm0 Hbox Hres Hpa Hsz HB0 ⊢
  refine (start_any a1 c1 rs D w0 (HA1.out.frame Hm0.out) L4.out).mono ?_
  rintro e w1 ⟨b1, d1, b2, d2, rfl, m1, htwo⟩
  have M1 := Lib.hid m1
  have Htwo := Lib.hid htwo
  clear m1 htwo
  have M2 := Lib.hid (Hm0.out.trans M1.out)
  obtain ⟨n, hn⟩ : ∃ n, rs.length = n := ⟨_, rfl⟩
  obtain ⟨R, hR⟩ : ∃ R, ix rs = R := ⟨_, rfl⟩
  obtain ⟨O, hO⟩ : ∃ O, ix os = O := ⟨_, rfl⟩
  rw [hn, hR] at HR Hrs
  rw [hn, hR, hO] at Hok Hlow HnO HnP
  rw [hn] at LnP l1 l4 n1 n4
  obtain ⟨q, hq⟩ : ∃ q, x / 1000 = q := ⟨_, rfl⟩
  obtain ⟨r, hr⟩ : ∃ r : Nat, x % 1000 = r := ⟨(x % 1000).toNat, by rw [Int.toNat_of_nonneg (Int.emod_nonneg _ (by decide))]⟩
  have eq1 : x.tdiv 1000 = q := by rw [Int.tdiv_eq_ediv_of_nonneg x0]; exact hq
  have er1 : x.tmod 1000 = r := by rw [Int.tmod_eq_emod_of_nonneg x0]; exact hr
  have r9 : r < 1000 := by omega
  have hq0 : 0 ≤ q := by omega
  have hq1 : q ≤ 1073742 := by omega
  have ern : (x % 1000).toNat = r := by rw [hr]; rfl
  rw [ern] at HnO HnP
  rw [hq] at HnP
  obtain ⟨P, hP⟩ : ∃ P : Nat → Int, (fun j => q * R j) = P := ⟨_, rfl⟩
  rw [hP] at HnP
  have HP := Lib.hid (fun j => (congrFun hP j).symm)
  have HP1 := Lib.hid (show ∀ j, j < n → 0 ≤ P j ∧ P j ≤ 1073742000 from fun j hj => by
    have h := HR.out j hj
    rw [HP.out j]
    have p1 : q * R j ≤ 1073742 * 1000 := Int.mul_le_mul hq1 h.2 h.1 (by decide)
    exact ⟨Int.mul_nonneg hq0 h.1, p1⟩)
  -- the memory of the arguments
  obtain ⟨_, ba, oa, haa, hca⟩ := HA1.out.open
  obtain ⟨_, bo, oo, hao, hco⟩ := HA2.out.open
  obtain rfl := haa (by intro e; subst e; simp at hn; omega)
  obtain rfl := hao (by intro e; rw [e] at Hol; have := Hol.out; simp at this; omega)
  rw [hn, hR] at hca
  rw [Hol.out, hn, hO] at hco
  have HCA := Lib.hid hca
  have HCO := Lib.hid hco
  clear hca hco haa hao hP hq hr ern
  -- the state behind Start
  have hns : NS w (w1.alloc (.cells #[.slice b1 rs.length d1, .slice b2 rs.length d2] 68)) (some ⟨ba, oa, none⟩) (some ⟨bo, oo, none⟩) c1 c2 rs.length w1.heap.size b1 d1 b2 d2 (some ⟨w.heap.size + 2, 0, none⟩) 0 0 R (midZ O 0) P := by
    have hz : ∀ k, k < w0.heap.size → w1.heap[k]? = w0.heap[k]? := fun k hk => M1.out.block k hk id
    have hB := Hsz.out
    have ht := Htwo.out
    have hr1 := ht.1
    rw [Hrs.out] at hr1
    have ho1 := ht.2.1
    rw [hn, rowV_of (F := midZ O 0) (n := n) (by simp) (fun j hj => (ix_replicate hj).trans (midZ_ge (by omega)).symm)] at ho1
    rw [hn]
    have g1 : ∀ k, blockOf b1 = some k → w.heap.size + 3 ≤ k ∧ k < w1.heap.size := fun k e => by have := hr1.lt e; omega
    have g2 : ∀ k, blockOf b2 = some k → w.heap.size + 3 ≤ k ∧ k < w1.heap.size := fun k e => by have := ho1.lt e; omega
    have hpb : blockOf (some (⟨w.heap.size + 2, 0, none⟩ : Addr)) = some (w.heap.size + 2) := rfl
    have hbx := Hbox.out
    rw [hn] at hbx
    refine ⟨M2.out.alloc _, (hbx.of_block (hz _ (by omega))).alloc _, (Hres.out.of_block (hz _ (by omega))).alloc _, rowIs_new w1 _ _, (hr1.mono (by omega)).alloc _, (ho1.mono (by omega)).alloc _, ?_, ht.2.2, fun k e e2 => ?_, fun k e e2 => ?_, fun e => ?_, fun e => ?_, fun e => ?_, ?_⟩
    · have h9 := (Hpa.out.mod M1.out (fun k _ => id)).alloc (.cells #[.slice b1 n d1, .slice b2 n d2] 68)
      exact h9
    · have := g1 k e; rw [hpb] at e2; injection e2 with e2; omega
    · have := g2 k e; rw [hpb] at e2; injection e2 with e2; omega
    · have := (g1 _ e.symm).2; omega
    · have := (g2 _ e.symm).2; omega
    · rw [hpb] at e; injection e with e; have := M1.out.size; omega
    · have := M1.out.size; omega
  have Hns := Lib.hid hns
  clear hns
  obtain ⟨g2, e2, hg2, _⟩ := (Hns.out.owed).addr (by omega)
  subst e2
  clear Hbox Hres Hpa Htwo M1 M2 Hsz HB0
  rw [hn] at Hns ⊢
  go_wp2
  generalize w1.alloc (.cells #[.slice b1 n d1, .slice (some ⟨g2, 0, none⟩) n d2] 68) = wa at Hns ⊢
  generalize w1.heap.size = B7 at Hns ⊢
  go_loopw [6, 8] (fun o i wr => ∃ (k : Nat) (ap : Option Addr) (cp : Nat), k ≤ n ∧ i = .int .i64 k ∧ o = .slice ap k cp ∧ NS w wr (some ⟨ba, oa, none⟩) (some ⟨bo, oo, none⟩) c1 c2 n B7 b1 d1 (some ⟨g2, 0, none⟩) d2 ap cp k R (midZ O k) P) (fun _ i _ => n - (intOf i).toNat)
  case atStart => exact ⟨0, _, _, by omega, rfl, rfl, Hns.out⟩
  case round =>
    clear Hns
    obtain ⟨k, ap, cp, hk, rfl, rfl, hns⟩ := hrel
    have H := Lib.hid hns
    clear hns
    obtain ⟨wo, rfl⟩ : ∃ wo : World, wo = wr := ⟨_, rfl⟩
    have hbox0 : wo.cell? ⟨w.heap.size, 0, none⟩ = some (.slice (some ⟨ba, oa, none⟩) n c1) := H.out.box.cell (by omega)
    by_cases hlt : k < n
    · have h1 := H.out.mod.cell (HCA.out k hlt) id
      obtain ⟨r0, r1⟩ := HR.out k hlt
      have p0 : 0 ≤ q * R k := Int.mul_nonneg hq0 r0
      have p1 : q * R k ≤ 1073742 * 1000 := Int.mul_le_mul hq1 r1 r0 (by decide)
      have p2 : q * R k ≤ 1073742000 := p1
      have Hk := Lib.hid (HP.out k)
      clear p1
      generalize R k = v at h1 p0 p2 Hk
      clear r0 r1
      have Lk := Lib.hid (show k = (rowV k P).length from (rowV_length k P).symm)
      have Ho := Lib.hid H.out.parts
      have hBs : w.heap.size + 2 ≤ wo.heap.size := by have := H.out.str.lt; have := H.out.h7; omega
      go_wp2_with (at_builtin; refine wpList_append1 (vs := rowV k P) rfl (.tmp 23) (.tmp 32) _ rfl elemInts k 1 (k + 1) 1 [.int .i64 (q * v)] rfl rfl Lk.out (by simp) (by omega) (Ho.out.alloc _) (Src.one _ _ _) (by simp [Value.oneCell']) (by simp only [maxLen]; omega) (by omega) (by simp; omega) ?_
                   intro a4 c4 w4 hown4 hgrow4 hat4
                   rw [← Hk.out] at hown4
                   have H4 := Lib.hid (H.out.append hown4 hgrow4 hat4)
                   have s1 : w4.cell? ⟨B7, 1, none⟩ = some (.slice (some ⟨g2, 0, none⟩) n d2) := H4.out.str.cell (by omega)
                   have s2 : w4.cell? ⟨w.heap.size, 1, none⟩ = some (.slice (some ⟨bo, oo, none⟩) n c2) := H4.out.box.cell (by omega)
                   have s3 := H4.out.mod.cell (HCO.out k hlt) id
                   have s4 := (H4.out.owed.cellAt hlt).1
                   have s5 := (H4.out.owed.cellAt hlt).2
                   clear hown4 hgrow4 hat4)
      go_region
      go_wp2
      refine ⟨⟨k + 1, a4, c4, by omega, by go_num, rfl, (H4.out.storeO (O' := midZ O (k + 1)) (fun _ => (midZ_lt (Nat.lt_succ_self k)).symm) (fun j hj hne => ?_) (by omega)).drew⟩, by simp [intOf]; omega⟩
      by_cases hj2 : j < k
      · rw [midZ_lt hj2, midZ_lt (by omega)]
      · rw [midZ_ge hj2, midZ_ge (by omega)]
    · have hkn : k = n := by omega
      subst hkn
      replace H := Lib.hid (H.out.congr (O' := O) (P' := P) (fun j hj => midZ_lt hj) (fun j _ => rfl))
      obtain ⟨g4, e4, -, -⟩ := (H.out.parts).addr (by omega)
      subst e4
      clear hlt hk
      go_wp2
      clear hbox0
      go_loopw [9, 10, 11] (fun i m u wr => ∃ e : Nat, e ≤ r ∧ i = .int .i64 e ∧ NS w wr (some ⟨ba, oa, none⟩) (some ⟨bo, oo, none⟩) c1 c2 k B7 b1 d1 (some ⟨g2, 0, none⟩) d2 (some ⟨g4, 0, none⟩) cp k R (unitsO k R O e) (unitsP k R O P e)) (fun i _ _ _ => r - (intOf i).toNat)
      case atStart => exact ⟨0, by omega, rfl, H.out⟩
      case round =>
        clear H
        clear wo
        obtain ⟨e, he, rfl, hns⟩ := hrel
        have H := Lib.hid hns
        clear hns
        obtain ⟨wo, rfl⟩ : ∃ wo : World, wo = wr := ⟨_, rfl⟩
        by_cases hlt : e < r
        · have hok := Hok.out e
          have Hok1 := Lib.hid (show ∀ j, j < k → -1000 < unitsO k R O e j ∧ unitsO k R O e j ≤ 3000 from fun j hj => ⟨hok.2 j hj, by have := hok.high hj; omega⟩)
          clear hok
          have HE := Lib.hid (show unitsO k R O (e + 1) = unitO k R (unitsO k R O e) from rfl)
          have HF := Lib.hid (show ∀ j, unitsP k R O P (e + 1) j = unitsP k R O P e j + if j = bestO R (unitsO k R O e) k then 1 else 0 from fun j => rfl)
          generalize unitsO k R O e = E at H Hok1 HE HF
          go_wp2
          go_loopw [10, 11] (fun m u wr => ∃ i : Nat, i ≤ k ∧ u = .int .i64 i ∧ m = .int .i64 (bestO R E i) ∧ NS w wr (some ⟨ba, oa, none⟩) (some ⟨bo, oo, none⟩) c1 c2 k B7 b1 d1 (some ⟨g2, 0, none⟩) d2 (some ⟨g4, 0, none⟩) cp k R (midO R E i) (unitsP k R O P e)) (fun _ u _ => k - (intOf u).toNat)
          case atStart => exact ⟨0, by omega, rfl, rfl, H.out⟩
          case round =>
            clear H
            clear wo
            obtain ⟨i, hi, rfl, rfl, hns⟩ := hrel
            have H := Lib.hid hns
            clear hns
            obtain ⟨wo, rfl⟩ : ∃ wo : World, wo = wr := ⟨_, rfl⟩
            have s1 : wo.cell? ⟨B7, 1, none⟩ = some (.slice (some ⟨g2, 0, none⟩) k d2) := H.out.str.cell (by omega)
            by_cases hlt2 : i < k
            · have hc1 := H.out.mod.cell (HCA.out i hlt2) id
              have s2 : wo.cell? ⟨w.heap.size, 0, none⟩ = some (.slice (some ⟨ba, oa, none⟩) k c1) := H.out.box.cell (by omega)
              have hc2 := (H.out.owed.cellAt hlt2).1
              have hz2 := (H.out.owed.cellAt hlt2).2
              rw [midO_ge (by omega)] at hc2
              obtain ⟨r0, r1⟩ := HR.out i hlt2
              obtain ⟨o0, o1⟩ := Hok1.out i hlt2
              have k4 : (i : Int) < 4 := by omega
              have k0 : (0 : Int) ≤ (i : Int) := by omega
              have kk : (i : Int) < (k : Int) := by omega
              have HA := Lib.hid (show E i + R i = addO R E i from rfl)
              obtain ⟨u, hu⟩ : ∃ u, R i = u := ⟨_, rfl⟩
              obtain ⟨v, hv⟩ : ∃ v, E i = v := ⟨_, rfl⟩
              rw [hu] at hc1 r0 r1 HA
              rw [hv] at hc2 o0 o1 HA
              clear hu hv
              have e6 : IntKind.i64.wrap (v + u) = v + u := IntWalk.i64_in _ (by omega)
              go_wp2
              go_region
              have hns2 : NS w (wo.setCell ⟨g2, i, none⟩ (.int .i64 (v + u))).drew (some ⟨ba, oa, none⟩) (some ⟨bo, oo, none⟩) c1 c2 k B7 b1 d1 (some ⟨g2, 0, none⟩) d2 (some ⟨g4, 0, none⟩) cp k R (midO R E (i + 1)) (unitsP k R O P e) := by
                refine (H.out.storeO (fun _ => ?_) (fun j hj hne => ?_) (by omega)).drew
                · rw [midO_lt (Nat.lt_succ_self i)]; exact HA.out
                · by_cases hj2 : j < i
                  · rw [midO_lt hj2, midO_lt (by omega)]
                  · rw [midO_ge hj2, midO_ge (by omega)]
              generalize (wo.setCell ⟨g2, i, none⟩ (.int .i64 (v + u))).drew = W at hns2 ⊢
              have hb := bestO_le R E i
              have hc3 := (hns2.owed.cellAt (j := i) (by omega)).1
              rw [midO_lt (Nat.lt_succ_self i), ← HA.out] at hc3
              have hc4 := (hns2.owed.cellAt (j := bestO R E i) (by omega)).1
              rw [midO_lt (by omega)] at hc4
              have s3 : W.cell? ⟨B7, 1, none⟩ = some (.slice (some ⟨g2, 0, none⟩) k d2) := hns2.str.cell (by omega)
              have H2 := Lib.hid hns2
              have hvu : v + u ≤ 4000 ∧ -1000 < v + u := by omega
              obtain ⟨hvu1, hvu2⟩ := hvu
              have b4 : ((bestO R E i : Nat) : Int) < (k : Int) := by omega
              have b0 : (0 : Int) ≤ ((bestO R E i : Nat) : Int) := by omega
              have Hup := Lib.hid (fun h => bestO_up (R := R) (O := E) (k := i) h)
              have Hnot := Lib.hid (fun h => bestO_not (R := R) (O := E) (k := i) h)
              clear hc1 hc2 hz2 r0 r1 o0 o1 e6 s1 s2 H hns2
              obtain ⟨z, hz⟩ : ∃ z, v + u = z := ⟨_, rfl⟩
              rw [hz] at hc3 hvu1 hvu2 HA
              generalize hb9 : bestO R E i = B at *
              generalize hy : addO R E B = y at *
              by_cases hlt3 : y < z
              · have Hb := Lib.hid (Hup.out (by rw [← HA.out]; exact hlt3))
                clear Hup Hnot
                go_wp2_with (go_quiet (fail))
                refine ⟨⟨i + 1, by omega, by go_num, by rw [Hb.out], H2.out.drewN _⟩, by simp [intOf]; omega⟩
              · have Hb := Lib.hid (Hnot.out (by rw [← HA.out]; exact hlt3))
                clear Hup Hnot
                go_wp2_with (go_quiet (fail))
                refine ⟨⟨i + 1, by omega, by go_num, by rw [Hb.out], H2.out.drewN _⟩, by simp [intOf]; omega⟩
            · have hik : i = k := by omega
              subst hik
              have hb := bestO_lt R E l1
              have hc1 := (H.out.owed.cellAt hb).1
              rw [midO_lt hb] at hc1
              have hz1 := (H.out.owed.cellAt hb).2
              obtain ⟨o0, o1⟩ := Hok1.out _ hb
              obtain ⟨r0, r1⟩ := HR.out _ hb
              have ho : -1000 < addO R E (bestO R E i) ∧ addO R E (bestO R E i) ≤ 4000 := by unfold addO; omega
              obtain ⟨p0, p1⟩ := HP1.out _ hb
              obtain ⟨p2, p3⟩ := Hlow.out P e (bestO R E i)
              have b4 : ((bestO R E i : Nat) : Int) < 4 := by omega
              have b0 : (0 : Int) ≤ ((bestO R E i : Nat) : Int) := by omega
              have bk : ((bestO R E i : Nat) : Int) < (i : Int) := by omega
              have HU := Lib.hid (show unitO i R E = fun j => addO R E j - if j = bestO R E i then 1000 else 0 from rfl)
              have Hst := Lib.hid (fun v h => H.out.storeO (k := bestO R E i) (v := v) (O' := unitO i R E) h (fun j hj hne => by rw [midO_lt hj, HU.out]; show _ = addO R E j - if j = bestO R E i then 1000 else 0; rw [if_neg hne]; simp) (by omega))
              generalize hb9 : bestO R E i = B at *
              generalize hy : addO R E B = y at hc1 ho
              generalize hpp : unitsP i R O P e B = pp at p2 p3
              obtain ⟨o2, o3⟩ := ho
              have hpp0 : 0 ≤ pp := by omega
              have hpp1 : pp ≤ 1073743000 := by omega
              have hns2 := (Hst.out (y - 1000) (fun _ => by rw [HU.out]; show _ = addO R E B - if B = B then 1000 else 0; rw [if_pos rfl, hy])).drew
              have Hpp := Lib.hid hpp
              clear o0 o1 r0 r1 p0 p1 p2 p3 hy hpp Hst
              have e6 : IntKind.i64.wrap (y - 1000) = y - 1000 := IntWalk.i64_in _ (by omega)
              go_wp2
              go_region
              generalize (wo.setCell ⟨g2, B, none⟩ (.int .i64 (y - 1000))).drew = W at hns2 ⊢
              clear hc1 hz1 e6 s1 H
              have hc2 := (hns2.parts.cellAt hb).1
              rw [Hpp.out] at hc2
              have hz2 := (hns2.parts.cellAt hb).2
              have H2 := Lib.hid hns2
              clear hns2
              go_wp2
              refine ⟨⟨e + 1, by omega, by go_num, ?_⟩, by simp [intOf]; omega⟩
              rw [HE.out]
              exact H2.out.storeP (fun _ => by rw [HF.out, if_pos rfl, Hpp.out]) (fun j hj hne => by rw [HF.out, if_neg hne]; simp) (by omega)
        · have her : e = r := by omega
          subst her
          have s1 : wo.cell? ⟨B7, 0, none⟩ = some (.slice b1 k d1) := H.out.str.cell (by omega)
          have s2 : wo.cell? ⟨B7, 1, none⟩ = some (.slice (some ⟨g2, 0, none⟩) k d2) := H.out.str.cell (by omega)
          have f0 : wo.frozen? ⟨w.heap.size + 1, 0, none⟩ = false := H.out.res.frozen 0
          have f1 : wo.frozen? ⟨w.heap.size + 1, 1, none⟩ = false := H.out.res.frozen 1
          have c0 : wo.cell? ⟨w.heap.size + 1, 0, none⟩ = some (.slice none 0 0) := H.out.res.cell (by omega)
          have c1 : wo.cell? ⟨w.heap.size + 1, 1, none⟩ = some (.slice none 0 0) := H.out.res.cell (by omega)
          go_wp2
          go_region
          have hm6 := ((H.out.mod.setCell (p := ⟨w.heap.size + 1, 0, none⟩) (.inr (Nat.le_succ _)) (.slice b1 k d1)).setCell (p := ⟨w.heap.size + 1, 1, none⟩) (.inr (Nat.le_succ _)) (.slice (some ⟨g2, 0, none⟩) k d2)).drew
          have hr6 : (((wo.setCell ⟨w.heap.size + 1, 0, none⟩ (.slice b1 k d1)).setCell ⟨w.heap.size + 1, 1, none⟩ (.slice (some ⟨g2, 0, none⟩) k d2)).drew).rowIs (w.heap.size + 1) 68 2 (fun i => (#[.slice b1 k d1, .slice (some ⟨g2, 0, none⟩) k d2] : Array Value).getD i undef) := by
            refine ((H.out.res.set 0 _).set 1 _).drew.congr fun i hi => ?_
            rcases (by omega : i = 0 ∨ i = 1) with rfl | rfl <;> rfl
          have ms := (((Mod.refl (fun b => b = w.heap.size + 1) wo).set1 0 (.slice b1 k d1)).set1 1 (.slice (some ⟨g2, 0, none⟩) k d2)).drew
          have ho1 := H.out.rates.mod ms (fun b e e2 => by have := (H.out.rates.lt e).1; omega)
          have ho2 := H.out.owed.mod ms (fun b e e2 => by have := (H.out.owed.lt e).1; omega)
          have ho3 := H.out.parts.mod ms (fun b e e2 => by have := (H.out.parts.lt e).1; omega)
          have Hd := Lib.hid H.out.d12
          clear ms s1 s2 f0 f1 c0 c1 H
          generalize ((wo.setCell ⟨w.heap.size + 1, 0, none⟩ (.slice b1 k d1)).setCell ⟨w.heap.size + 1, 1, none⟩ (.slice (some ⟨g2, 0, none⟩) k d2)).drew = w6 at hm6 hr6 ho1 ho2 ho3 ⊢
          have t0 : w6.cell? ⟨w.heap.size + 1, 0, none⟩ = some (.slice b1 k d1) := hr6.cell (by omega)
          have t1 : w6.cell? ⟨w.heap.size + 1, 1, none⟩ = some (.slice (some ⟨g2, 0, none⟩) k d2) := hr6.cell (by omega)
          have Hm6 := Lib.hid hm6
          have Ho1 := Lib.hid ho1
          have Ho2 := Lib.hid ho2
          have Ho3 := Lib.hid ho3
          clear hm6 hr6 ho1 ho2 ho3
          go_wp2
          refine bodyPost_ret (v := .tuple #[.slice (some ⟨g4, 0, none⟩) k cp, .agg #[.slice b1 k d1, .slice (some ⟨g2, 0, none⟩) k d2]]) (by simp [results, Try.results33, go_sem, t0, t1]) rfl ⟨some ⟨g4, 0, none⟩, cp, b1, d1, some ⟨g2, 0, none⟩, d2, by rw [hn], Hm6.out, ?_, ?_⟩
          · refine Own.ints (B := w.heap.size + 2) (e := 3) (c := cp) ?_ (fun b hb _ => by show w.heap.size ≤ b; omega) (by rw [LnP.out]; simp only [maxLen]; omega)
            rw [HnP.out]; exact Ho3.out
          · refine Two.mono (B := w.heap.size + 2) ⟨?_, ?_, Hd.out⟩ (by omega)
            · rw [Hrs.out]; exact Ho1.out
            · rw [HnO.out]; exact Ho2.out

end Go.Proofs.Ytgoccfjmghhaoaa
