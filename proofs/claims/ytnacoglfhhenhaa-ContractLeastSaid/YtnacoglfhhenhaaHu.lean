/-
  match: the reference's search for a column, with the way back.
-/
import Derived.Test.YtnacoglfhhenhaaHp
import Derived.Test.YtnacoglfhhenhaaHt
set_option linter.unusedVariables false
set_option linter.unusedSimpArgs false
namespace Go.Proofs.Ytnacoglfhhenhaa
open Go.RowKit

def inf42 : Int := 4398046511104

set_option maxRecDepth 100000 in
set_option maxHeartbeats 6400000 in
theorem grow_any {D : Nat → Prop} {w : World} {bu bv br bf ba oa ca n K n1 m i : Nat} {c0 c : Nat → Nat → Int} {ra ro rc : Nat → Nat} {u v : Nat → Int} {row fr : Nat → Nat} (hT : Tab D w ba oa n K c0 ra ro rc) (hD : ∀ b, D b → ¬ Own4 bu bv br bf b)
    (hcc : ∀ r j, c (r + 1) (j + 1) = c0 r j) (hc : CostOk c n K) (hd : HD c n K i row u v) (hi : i < n) (hnK : n ≤ K) (hK : K ≤ 100) (m1 : K < m) (m2 : m ≤ K + 1) (m3 : n < n1) (m4 : n1 ≤ n + 1)
    (hr : R4 w bu bv br bf n1 m u v row fr) :
    Calls Try.prog 63 #[.agg (five bu bv br bf (some ⟨ba, oa, none⟩) ca n n1 m), .int .i64 ((i : Int) + 1), .int .i64 K] w fun e w' => e = .returned (.tuple #[]) ∧ ∃ u' v' row1 fr', HD c n K (i + 1) row1 u' v' ∧ R4 w' bu bv br bf n1 m u' v' row1 fr' ∧ Mod (Own4 bu bv br bf) w w' := by
  obtain ⟨f, f1, fK, ff⟩ := hd.free (by omega)
  have ffr : rootAt row (i + 1) f = 0 := by unfold rootAt; rw [if_neg (by omega)]; exact ff
  have hmk := run_make_row' (P := Try.prog) 30 3 (.int .i64 0) 8 Try.underlying30 infoIntM rfl .i64 .i64 m (by omega) (by omega)
  have hmk2 := run_make_row' (P := Try.prog) 96 4 (.bool false) 1 Try.underlying96 infoBoolM rfl .i64 .i64 m (by omega) (by omega)
  have hm9 : (K : Int) + 1 = (m : Int) := by omega
  have hz : -1125899906842624 ≤ v 0 + u (i + 1) ∧ v 0 + u (i + 1) ≤ 1125899906842624 := by
    have h1 := hd.pot.uLe hc f1 fK ff (r := i + 1) (by omega) (by omega)
    have h2 := hd.vz
    simp only [far] at h1 h2
    omega
  have h3 : bu < w.heap.size ∧ bv < w.heap.size ∧ br < w.heap.size ∧ bf < w.heap.size := ⟨hr.hu.lt, hr.hv.lt, hr.hrow.lt, hr.hfr.lt⟩
  have hbox : (w.alloc (.cells #[.slice (some ⟨ba, oa, none⟩) n ca, .slice (some ⟨bu, 0, none⟩) n1 n1, .slice (some ⟨bv, 0, none⟩) m m, .slice (some ⟨br, 0, none⟩) m m, .slice (some ⟨bf, 0, none⟩) m m] 91)).rowIs w.heap.size 91 5 (fun i => (five bu bv br bf (some ⟨ba, oa, none⟩) ca n n1 m).getD i undef) := rowIs_new w _ _
  have Hbox := Lib.hid hbox
  have Hr1 := Lib.hid (hr.alloc (.cells #[.slice (some ⟨ba, oa, none⟩) n ca, .slice (some ⟨bu, 0, none⟩) n1 n1, .slice (some ⟨bv, 0, none⟩) m m, .slice (some ⟨br, 0, none⟩) m m, .slice (some ⟨bf, 0, none⟩) m m] 91))
  have Hm1 := Lib.hid ((Mod.refl (Own4 bu bv br bf) w).alloc (.cells #[.slice (some ⟨ba, oa, none⟩) n ca, .slice (some ⟨bu, 0, none⟩) n1 n1, .slice (some ⟨bv, 0, none⟩) m m, .slice (some ⟨br, 0, none⟩) m m, .slice (some ⟨bf, 0, none⟩) m m] 91))
  have Hsz1 := Lib.hid (show (w.alloc (.cells #[.slice (some ⟨ba, oa, none⟩) n ca, .slice (some ⟨bu, 0, none⟩) n1 n1, .slice (some ⟨bv, 0, none⟩) m m, .slice (some ⟨br, 0, none⟩) m m, .slice (some ⟨bf, 0, none⟩) m m] 91)).heap.size = w.heap.size + 1 by simp)
  have HT := Lib.hid hT
  have HD9 := Lib.hid hD
  have HC := Lib.hid hc
  have HCC := Lib.hid hcc
  have HR := Lib.hid (hd.rowOk hi)
  have HS := Lib.hid (fun fr => hd.start (inf := inf42) hi fr)
  have HZ := Lib.hid hz
  have HF := Lib.hid ffr
  have H00 := Lib.hid (show rootAt row (i + 1) 0 = i + 1 from rfl)
  have H01 := Lib.hid (show ∀ j, j ≠ 0 → rootAt row (i + 1) j = row j from fun j hj => if_neg hj)
  have HFO := Lib.hid (fun t s h hat => PI.found (inf := inf42) (z := v 0 + u (i + 1)) (t := t) (s := s) hd hi h hat)
  have HBD := Lib.hid (fun t s rk row1 h a => back_done (inf := inf42) (t := t) (s := s) (rk := rk) (row1 := row1) hd hi hnK hc h a)
  have H3 := Lib.hid h3
  unfold five
  clear hT hD hc hd hr ff hcc hz ffr hbox h3
  generalize hrow' : rootAt row (i + 1) = row' at HR HS HF H00 H01 HFO HBD ⊢
  clear hrow'
  generalize hz9 : v 0 + u (i + 1) = z at HS HZ HFO HBD ⊢
  clear hz9
  have i1 : (i : Int) < (K : Int) := by omega
  go_enter Try.func63, Try.ntmps63
  go_upto_region 1 with fail
  generalize (w.alloc (.cells #[.slice (some ⟨ba, oa, none⟩) n ca, .slice (some ⟨bu, 0, none⟩) n1 n1, .slice (some ⟨bv, 0, none⟩) m m, .slice (some ⟨br, 0, none⟩) m m, .slice (some ⟨bf, 0, none⟩) m m] 91)) = w1 at Hbox Hr1 Hm1 Hsz1 ⊢
  generalize hg9 : w.heap.size = g at Hbox H3 Hsz1 ⊢
  have b3 : w1.cell? ⟨g, 3, none⟩ = some (.slice (some ⟨br, 0, none⟩) m m) := Hbox.out.cell (i := 3) (by omega)
  have f0 := Hr1.out.hrow.frozen 0
  have c0 := Hr1.out.rowAt (k := 0) (by omega)
  go_upto_region 2 with fail
  have hr2 := Hr1.out.setRow (k := 0) (x := i + 1) (row' := row') (fun _ => H00.out.symm) (fun j _ hj => (H01.out j hj).symm)
  have hb2 := Hbox.out.setOther (a := ⟨br, 0, none⟩) (by have := H3.out; show ¬ g = br; omega) (.int .i64 ((i + 1 : Nat) : Int))
  have hm2 := Hm1.out.setCell (p := ⟨br, 0, none⟩) (.inl (.inr (.inr (.inl rfl)))) (.int .i64 ((i + 1 : Nat) : Int))
  have hs2 : (w1.setCell ⟨br, 0, none⟩ (.int .i64 ((i + 1 : Nat) : Int))).heap.size = g + 1 := by have := Hsz1.out; simp [this]
  rw [Int.natCast_add, Int.natCast_one] at hr2 hb2 hm2 hs2
  generalize w1.setCell ⟨br, 0, none⟩ (.int .i64 ((i : Int) + 1)) = w2 at hr2 hb2 hm2 hs2 ⊢
  have H0 : Hid (SP w ((w2.alloc (.cells (madeCells #[.bool false] m) 4)).alloc (.cells (madeCells #[.int .i64 0] m) 3)) 91 bu bv br bf g (w2.heap.size + 1) w2.heap.size (some ⟨ba, oa, none⟩) ca n n1 m u v row' fr (fun _ => 0) (fun _ => false)) := Lib.hid
    ⟨(hm2.alloc _).alloc _, (hb2.alloc _).alloc _, (hr2.alloc _).alloc _, by
      have := World.rowIs_made (w2.alloc (.cells (madeCells #[.bool false] m) 4)) (.int .i64 0) m 3
      simpa using this, (World.rowIs_made w2 (.bool false) m 4).alloc _, by have := H3.out; omega, by omega, by rw [hg9]; exact H3.out, by omega, by omega⟩
  clear Hbox Hr1 Hm1 Hsz1 b3 f0 c0 hr2 hb2 hm2 hs2 H00 H01 H3 hg9
  go_wp2_with fail
  clear hmk hmk2 hm9
  generalize ((w2.alloc (.cells (madeCells #[.bool false] m) 4)).alloc (.cells (madeCells #[.int .i64 0] m) 3)) = w3 at H0 ⊢
  obtain ⟨bd, hbd⟩ : ∃ bd, w2.heap.size = bd := ⟨_, rfl⟩
  rw [hbd] at H0 ⊢
  obtain ⟨bs, hbs⟩ : ∃ bs, bd + 1 = bs := ⟨_, rfl⟩
  rw [hbs] at H0 ⊢
  clear hbd hbs w2
  go_loopw [9] (fun i wr => ∃ k : Nat, k ≤ m ∧ i = .int .i64 k ∧ SP w wr 91 bu bv br bf g bs bd (some ⟨ba, oa, none⟩) ca n n1 m u v row' fr (midF (fun _ => inf42) (fun _ => 0) k) (fun _ => false)) (fun i _ => m - (intOf i).toNat)
  case atStart => exact ⟨0, by omega, rfl, H0.out.congr (fun _ _ => rfl) (fun _ _ => rfl) (fun _ _ => rfl) (fun _ _ => rfl) (fun j _ => by rw [midF_ge (Nat.not_lt_zero j)]) (fun _ _ => rfl)⟩
  case round =>
    clear H0
    clear w3
    obtain ⟨k, hk, rfl, hsp⟩ := hrel
    have H := Lib.hid hsp
    clear hsp
    obtain ⟨wo, rfl⟩ : ∃ wo : World, wo = wr := ⟨_, rfl⟩
    by_cases hlt : k < m
    · have f0 := H.out.hsl.frozen k
      have c0 := H.out.slAt hlt
      rw [midF_ge (by omega)] at c0
      have kK : (k : Int) ≤ (K : Int) := by omega
      go_wp2_with fail
      refine ⟨⟨k + 1, by omega, by go_num, H.out.setSl (fun _ => by rw [midF_at]; rfl) (fun j hj e => midF_step e)⟩, by simp [intOf]; omega⟩
    · have hkm : m = k := by omega
      subst hkm
      have Hs := Lib.hid (H.out.congr (fun _ _ => rfl) (fun _ _ => rfl) (fun _ _ => rfl) (fun _ _ => rfl) (fun j hj => midF_lt (F' := fun _ => inf42) hj) (fun _ _ => rfl))
      have kK : (K : Int) < (m : Int) := by omega
      have kKN : ¬ m ≤ K := by omega
      clear hlt hk H
      go_wp2_with fail
      go_loopg [6, 10] (K + 1) (fun k at_ st wr => ∃ s tt, at_ = .int .i64 (s.at_ : Int) ∧ st = .int .i64 ((tt : Nat) : Int) ∧ PI c n K inf42 row' z tt s ∧ SP w wr 91 bu bv br bf g bs bd (some ⟨ba, oa, none⟩) ca n n1 m s.u s.v row' s.fr s.sl s.us ∧ tt + k = K + 1)
      case atStart => exact ⟨_, 0, rfl, rfl, HS.out fr, Hs.out, by omega⟩
      case round =>
          clear Hs HS
          clear wo
          obtain ⟨s, tt, rfl, rfl, hpi, hsp, htk⟩ := hrel
          have HP := Lib.hid hpi
          have H := Lib.hid hsp
          have aK := hpi.atK
          have tK := hpi.tle fK HF.out
          clear hpi hsp
          obtain ⟨wo, rfl⟩ : ∃ wo : World, wo = wr := ⟨_, rfl⟩
          have b3 := H.out.b3
          have c1 := H.out.r4.rowAt (k := s.at_) (by omega)
          have am : (s.at_ : Int) < (m : Int) := by omega
          have tK1 : (tt : Int) ≤ (K : Int) := by omega
          by_cases hat : row' s.at_ = 0
          · rw [hat] at c1
            have Hat := Lib.hid hat
            clear hat
            go_wp2_with fail
            obtain ⟨rk, ha, hrk, hu, he⟩ := HFO.out tt s HP.out Hat.out
            have HU := Lib.hid hu
            have HE := Lib.hid he
            have HA := Lib.hid ha
            have Hrk := Lib.hid hrk
            clear ha hrk hu he b3 c1 am tK1
            go_loopg [6, 17] (rk s.at_) (fun k at_ st wr => ∃ (h st' : Nat) (row1 : Nat → Nat), at_ = .int .i64 (h : Int) ∧ st = .int .i64 (st' : Int) ∧ Aug c n K (i + 1) s.u s.v row' s.fr s.us rk row1 h ∧ k = rk h ∧ st' + k ≤ K ∧ SP w wr 91 bu bv br bf g bs bd (some ⟨ba, oa, none⟩) ca n n1 m s.u s.v row1 s.fr s.sl s.us)
            case atStart => exact ⟨s.at_, 0, row', rfl, rfl, HA.out, rfl, by rw [Hrk.out]; omega, H.out⟩
            case round =>
              clear H HA Hrk
              clear wo
              obtain ⟨h, st', row1, rfl, rfl, ha, hgk, hst, hsp⟩ := hrel
              have H := Lib.hid hsp
              have HA := Lib.hid ha
              have hK' := ha.hK
              have Hgk := Lib.hid hgk
              have t1 : (st' : Int) ≤ (K : Int) := by omega
              clear hsp ha hgk
              obtain ⟨wo, rfl⟩ : ∃ wo : World, wo = wr := ⟨_, rfl⟩
              by_cases h0 : h = 0
              · subst h0
                go_wp2_with fail
                (try simp only [Exit.inBlock, Exit.then])
                refine bodyPost_end (results_none rfl _ _ _) rfl ?_
                exact ⟨rfl, s.u, s.v, row1, s.fr, HBD.out tt s rk row1 HP.out HA.out, H.out.r4, H.out.mod⟩
              · obtain ⟨a1, a2, a3⟩ := HA.out.step HU.out HE.out h0
                have b4 := H.out.b4
                have b3 := H.out.b3
                have c1 := H.out.r4.frAt (k := h) (by omega)
                have c2 := H.out.r4.rowAt (k := s.fr h) (by have := a1.hK; omega)
                have c3 := H.out.r4.rowAt (k := h) (by omega)
                have f3 := H.out.r4.hrow.frozen h
                have l1 : (h : Int) < (m : Int) := by omega
                have l2 : ((s.fr h : Nat) : Int) < (m : Int) := by have := a1.hK; omega
                have Hn1 := Lib.hid (H.out.setRow (k := h) (x := row1 (s.fr h)) (row' := shift row1 s.fr h) (fun _ => (if_pos rfl).symm) (fun j _ hj => (if_neg hj).symm)).drew
                have A1 := Lib.hid a1
                have A2 := Lib.hid a2
                have A3 := Lib.hid a3
                clear a1 a2 a3
                generalize s.fr h = b at c1 c2 l2 A1 A2 A3 Hn1
                generalize row1 b = x at c2 Hn1
                go_upto_region 39 with fail
                go_region
                generalize (wo.setCell ⟨br, h, none⟩ (.int .i64 (x : Int))).drew = w5 at Hn1 ⊢
                go_wp2_with fail
                go_roundg (rk b)
                case measure => rw [Hgk.out]; exact A2.out
                case rel => exact ⟨b, st' + 1, _, rfl, by go_num, A1.out, rfl, by have := A2.out; have := Hgk.out; omega, Hn1.out⟩
          · obtain ⟨hSF, hP2⟩ := HP.out.facts HR.out HC.out hat f1 fK HF.out (by decide) HZ.out
            obtain ⟨r0, hr0⟩ : ∃ r0, row' s.at_ = r0 + 1 := ⟨row' s.at_ - 1, by omega⟩
            have rn := (hSF.mr _ (markU_at s)).2.2
            rw [hr0] at c1 hSF rn
            have Hr0 := Lib.hid hr0
            have f1' := H.out.hus.frozen s.at_
            have c2 := H.out.usAt (k := s.at_) (by omega)
            clear hr0 hat
            go_upto_region 13 with fail
            have hns := H.out.setUs (k := s.at_) (x := true) (us' := markU s) (fun _ => (markU_at s).symm) (fun j _ hj => (if_neg hj).symm)
            generalize wo.setCell ⟨bd, s.at_, none⟩ (.bool true) = w1 at hns ⊢
            clear b3 c1 f1' c2 H
            have H := Lib.hid hns
            clear hns
            have b3 := H.out.b3
            have c1 := H.out.r4.rowAt (k := s.at_) (by omega)
            rw [Hr0.out, Int.natCast_add, Int.natCast_one] at c1
            have HSF := Lib.hid hSF
            have HP2 := Lib.hid hP2
            have Hnew := Lib.hid (newStep c s (r0 + 1))
            have hst : stepP c K inf42 row' s = { u := addU (markU s) row' (bestS (markU s) (newSl c s (r0 + 1)) inf42 K).1 s.u (K + 1), v := fun j => if markU s j then s.v j - (bestS (markU s) (newSl c s (r0 + 1)) inf42 K).1 else s.v j, sl := fun j => if markU s j then newSl c s (r0 + 1) j else newSl c s (r0 + 1) j - (bestS (markU s) (newSl c s (r0 + 1)) inf42 K).1, fr := newFr c s (r0 + 1), us := markU s, at_ := (bestS (markU s) (newSl c s (r0 + 1)) inf42 K).2 } := by
              unfold stepP; rw [Hr0.out]
            have Hst := Lib.hid hst
            clear hst
            clear hSF hP2
            generalize newSl c s (r0 + 1) = sl' at HSF Hnew Hst
            generalize newFr c s (r0 + 1) = fr' at Hnew Hst
            generalize markU s = us' at HSF Hnew Hst H
            go_wp2_with fail
            go_loopw [12, 13, 14] (fun nx d j wr => ∃ k : Nat, k ≤ K ∧ j = .int .i64 ((k : Int) + 1) ∧ d = .int .i64 (bestS us' sl' inf42 k).1 ∧ nx = .int .i64 ((bestS us' sl' inf42 k).2 : Int) ∧ SP w wr 91 bu bv br bf g bs bd (some ⟨ba, oa, none⟩) ca n n1 m s.u s.v row' (midF fr' s.fr (k + 1)) (midF sl' s.sl (k + 1)) us') (fun _ _ j _ => K + 1 - (intOf j).toNat)
            case atStart =>
              obtain ⟨e1, e2⟩ := Hnew.out.1 0 HSF.out.m0
              refine ⟨0, by omega, rfl, rfl, rfl, H.out.congr (fun _ _ => rfl) (fun _ _ => rfl) (fun _ _ => rfl) (fun j _ => ?_) (fun j _ => ?_) (fun _ _ => rfl)⟩
              · rw [← midF_same e2, midF_ge (Nat.not_lt_zero j)]
              · rw [← midF_same e1, midF_ge (Nat.not_lt_zero j)]
            case round =>
              clear H b3 c1
              clear wo w1
              obtain ⟨k, hk, rfl, rfl, rfl, hsp⟩ := hrel
              have H := Lib.hid hsp
              clear hsp
              obtain ⟨wo, rfl⟩ : ∃ wo : World, wo = wr := ⟨_, rfl⟩
              by_cases hlt : k < K
              · have km : (k : Int) + 1 < (m : Int) := by omega
                have k0 : (0 : Int) ≤ (k : Int) + 1 := by omega
                have kK : (k : Int) < (K : Int) := by omega
                have kK1 : (k : Int) + 1 ≤ (K : Int) := by omega
                have c2 := H.out.usAt (k := k + 1) (by omega)
                by_cases hus : us' (k + 1) = true
                · rw [hus] at c2
                  have Hus := Lib.hid hus
                  clear hus
                  go_wp2_with fail
                  obtain ⟨e1, e2⟩ := Hnew.out.1 _ Hus.out
                  refine ⟨⟨k + 1, by omega, by go_num, by rw [bestS_skip Hus.out], by rw [bestS_skip Hus.out], H.out.congr (fun _ _ => rfl) (fun _ _ => rfl) (fun _ _ => rfl) (fun j _ => midF_same e2 j) (fun j _ => midF_same e1 j) (fun _ _ => rfl)⟩, by simp [intOf]; omega⟩
                · have hus : us' (k + 1) = false := by simpa using hus
                  rw [hus] at c2
                  have Hus := Lib.hid hus
                  clear hus
                  have kK : (k : Int) < (K : Int) := by omega
                  have b0 := H.out.b0
                  have b1 := H.out.b1
                  have b2 := H.out.b2
                  have d0 := H.out.mod.cell (HT.out.rows r0 (by omega)) (HD9.out _ (HT.out.base (by omega)))
                  have d1 := H.out.mod.cell (HT.out.cells r0 (by omega) k hlt) (HD9.out _ (HT.out.own r0 (by omega)))
                  have d2 := H.out.r4.uAt (k := r0 + 1) (by omega)
                  have d3 := H.out.r4.vAt (k := k + 1) (by omega)
                  have d4 := H.out.slAt (k := k + 1) (by omega)
                  rw [midF_ge (by omega)] at d4
                  have r1 : (r0 : Int) < (n : Int) := by omega
                  have r2 : (r0 : Int) + 1 < (n1 : Int) := by omega
                  have r3 : (n : Int) ≤ 100 := by omega
                  have Hx := Lib.hid (HC.out (r0 + 1) (by omega) (by omega) (k + 1) (by omega) (by omega))
                  rw [HCC.out] at Hx
                  have Hy := Lib.hid (HSF.out.uB (r0 + 1) (by omega) rn)
                  have Hz9 := Lib.hid (HSF.out.vB (k + 1) (by omega) (by omega))
                  have Hred := Lib.hid (show redC c s.u s.v (r0 + 1) (k + 1) = c0 r0 k - s.u (r0 + 1) - s.v (k + 1) by unfold redC; rw [HCC.out])
                  have Hn2 := Lib.hid (Hnew.out.2 _ Hus.out)
                  rw [Hred.out] at Hn2
                  clear Hred
                  generalize c0 r0 k = x at d1 Hx Hn2
                  generalize s.u (r0 + 1) = y at d2 Hy Hn2
                  generalize s.v (k + 1) = v1 at d3 Hz9 Hn2
                  generalize hq : s.sl (k + 1) = q at d4 Hn2
                  have Hq := Lib.hid hq
                  clear hq
                  have hx := Hx.out
                  have hy := Hy.out
                  have hv := Hz9.out
                  simp only [far] at hx hy hv
                  have e6 : IntKind.i64.wrap (x - y) = x - y := IntWalk.i64_in _ (by omega)
                  have e7 : IntKind.i64.wrap (x - y - v1) = x - y - v1 := IntWalk.i64_in _ (by omega)
                  clear hx hy hv
                  go_upto_region 21 with (go_quiet (fail))
                  have hns := H.out.drewN nq
                  generalize wo.drewN nq = w2 at hns ⊢
                  clear H b0 b1 b2 c2 d0 d1 d2 d3 d4 r3 e6 e7
                  have H := Lib.hid hns
                  clear hns
                  have d4 := H.out.slAt (k := k + 1) (by omega)
                  rw [midF_ge (by omega), Hq.out] at d4
                  generalize x - y - v1 = red at Hn2 ⊢
                  have HbT := Lib.hid (fun h => bestS_take (us := us') (sl := sl') (inf := inf42) (k := k) Hus.out h)
                  have HbK := Lib.hid (fun h => bestS_keep (us := us') (sl := sl') (inf := inf42) (k := k) h)
                  generalize hB : bestS us' sl' inf42 k = B at HbT HbK ⊢
                  clear hB
                  by_cases hlt3 : red < q
                  · obtain ⟨e1, e2⟩ := Hn2.out.1 hlt3
                    have z1 := H.out.hsl.frozen (k + 1)
                    have hn1 := H.out.setSl (k := k + 1) (x := red) (sl' := midF sl' s.sl (k + 1 + 1)) (fun _ => by rw [midF_at, e1]) (fun j _ hj => midF_step hj)
                    have z2 := hn1.r4.hfr.frozen (k + 1)
                    have b4 := hn1.b4
                    have d5 := hn1.r4.frAt (k := k + 1) (by omega)
                    have Hn1 := Lib.hid hn1
                    have E1 := Lib.hid e1
                    have E2 := Lib.hid e2
                    clear e1 e2 Hn2 hn1
                    go_upto_region 24 with fail
                    have hns := Hn1.out.setFr (k := k + 1) (x := s.at_) (fr' := midF fr' s.fr (k + 1 + 1)) (fun _ => by rw [midF_at, E2.out]) (fun j _ hj => midF_step hj)
                    generalize (w2.setCell ⟨bs, k + 1, none⟩ (.int .i64 red)).setCell ⟨bf, k + 1, none⟩ (.int .i64 (s.at_ : Int)) = w3 at hns ⊢
                    clear H Hn1 b4 z1 z2 d4 d5
                    have H := Lib.hid hns
                    clear hns
                    have d4 := H.out.slAt (k := k + 1) (by omega)
                    rw [midF_at, E1.out] at d4
                    rw [E1.out] at HbT HbK
                    by_cases hlt4 : red < B.1
                    · have Hb := Lib.hid (HbT.out (by omega))
                      clear HbT HbK
                      go_wp2_with fail
                      refine ⟨⟨k + 1, by omega, by go_num, by rw [Hb.out], by rw [Hb.out]; rfl, H.out⟩, by simp [intOf]; omega⟩
                    · have Hb := Lib.hid (HbK.out (by omega))
                      clear HbT HbK
                      go_wp2_with fail
                      refine ⟨⟨k + 1, by omega, by go_num, by rw [Hb.out], by rw [Hb.out], H.out⟩, by simp [intOf]; omega⟩
                  · obtain ⟨e1, e2⟩ := Hn2.out.2 (by omega)
                    rw [e1] at HbT HbK
                    have H5 := Lib.hid (H.out.congr (fun _ _ => rfl) (fun _ _ => rfl) (fun _ _ => rfl) (fun j _ => midF_same e2 j) (fun j _ => midF_same (e1.trans Hq.out.symm) j) (fun _ _ => rfl))
                    clear e1 e2 Hn2 H
                    by_cases hlt4 : q < B.1
                    · have Hb := Lib.hid (HbT.out (by omega))
                      clear HbT HbK
                      go_wp2_with fail
                      refine ⟨⟨k + 1, by omega, by go_num, by rw [Hb.out], by rw [Hb.out]; rfl, H5.out⟩, by simp [intOf]; omega⟩
                    · have Hb := Lib.hid (HbK.out (by omega))
                      clear HbT HbK
                      go_wp2_with fail
                      refine ⟨⟨k + 1, by omega, by go_num, by rw [Hb.out], by rw [Hb.out], H5.out⟩, by simp [intOf]; omega⟩
              · have hkK : K = k := by omega
                subst hkK
                replace H := Lib.hid (H.out.congr (fun _ _ => rfl) (fun _ _ => rfl) (fun _ _ => rfl) (fun j hj => midF_lt (F' := fr') (by omega)) (fun j hj => midF_lt (F' := sl') (by omega)) (fun _ _ => rfl))
                clear hlt hk Hnew
                obtain ⟨d, hd⟩ : ∃ d, (bestS us' sl' inf42 K).1 = d := ⟨_, rfl⟩
                obtain ⟨nx, hnx⟩ : ∃ nx, (bestS us' sl' inf42 K).2 = nx := ⟨_, rfl⟩
                rw [hd] at HSF Hst ⊢
                rw [hnx] at Hst ⊢
                clear hd hnx
                have HV : Hid ((∀ j, us' j = true → (if us' j then s.v j - d else s.v j) = s.v j - d ∧ (if us' j then sl' j else sl' j - d) = sl' j) ∧ ∀ j, us' j = false → (if us' j then s.v j - d else s.v j) = s.v j ∧ (if us' j then sl' j else sl' j - d) = sl' j - d) := Lib.hid ⟨fun j h => ⟨if_pos h, if_pos h⟩, fun j h => ⟨if_neg (by rw [h]; decide), if_neg (by rw [h]; decide)⟩⟩
                obtain ⟨V', hV⟩ : ∃ V' : Nat → Int, V' = fun j => if us' j then s.v j - d else s.v j := ⟨_, rfl⟩
                obtain ⟨S', hS⟩ : ∃ S' : Nat → Int, S' = fun j => if us' j then sl' j else sl' j - d := ⟨_, rfl⟩
                rw [← hV, ← hS] at Hst
                replace HV : Hid ((∀ j, us' j = true → V' j = s.v j - d ∧ S' j = sl' j) ∧ ∀ j, us' j = false → V' j = s.v j ∧ S' j = sl' j - d) := by rw [hV, hS]; exact HV
                clear hV hS
                obtain ⟨dB0, dB1⟩ := HSF.out.dB
                have dB2 : d ≤ 4398046511104 := dB1
                clear dB1
                go_wp2_with fail
                go_loopw [16] (fun i wr => ∃ k : Nat, k ≤ m ∧ i = .int .i64 k ∧ SP w wr 91 bu bv br bf g bs bd (some ⟨ba, oa, none⟩) ca n n1 m (addU us' row' d s.u k) (midF V' s.v k) row' fr' (midF S' sl' k) us') (fun i _ => m - (intOf i).toNat)
                case atStart => exact ⟨0, by omega, rfl, H.out.congr (fun _ _ => rfl) (fun j _ => by rw [midF_ge (Nat.not_lt_zero j)]) (fun _ _ => rfl) (fun _ _ => rfl) (fun j _ => by rw [midF_ge (Nat.not_lt_zero j)]) (fun _ _ => rfl)⟩
                case round =>
                  clear H
                  clear wo
                  obtain ⟨k, hk, rfl, hsp⟩ := hrel
                  have H := Lib.hid hsp
                  clear hsp
                  obtain ⟨wo, rfl⟩ : ∃ wo : World, wo = wr := ⟨_, rfl⟩
                  by_cases hlt : k < m
                  · have km : (k : Int) < (m : Int) := by omega
                    have kK : (k : Int) ≤ (K : Int) := by omega
                    have c2 := H.out.usAt (k := k) hlt
                    by_cases hus : us' k = true
                    · rw [hus] at c2
                      have Hus := Lib.hid hus
                      clear hus
                      obtain ⟨v1, v2⟩ := HV.out.1 _ Hus.out
                      obtain ⟨m5, m6, m7⟩ := HSF.out.mr _ Hus.out
                      have b1 := H.out.b1
                      have b3 := H.out.b3
                      have c3 := H.out.r4.rowAt (k := k) hlt
                      have c4 := H.out.r4.uAt (k := row' k) (by omega)
                      have z4 := H.out.r4.hu.frozen (row' k)
                      have Hn1 := Lib.hid (fun x hx => H.out.setU (k := row' k) (x := x) (u' := addU us' row' d s.u (k + 1)) hx (fun j _ hj => (addU_miss Hus.out hj).symm))
                      have hy := HSF.out.aB k (row' k) m6 m7
                      have Hy := Lib.hid (addU_hit (row := row') (d := d) (u := s.u) Hus.out)
                      have V1 := Lib.hid v1
                      have V2 := Lib.hid v2
                      clear v1 v2
                      generalize addU us' row' d s.u k (row' k) = y at c4 hy Hy
                      generalize row' k = r at c3 c4 m6 m7 z4 Hn1 Hy
                      obtain ⟨hy0, hy1⟩ := hy
                      simp only [far, inf42] at hy1
                      have e6 : IntKind.i64.wrap (y + d) = y + d := IntWalk.i64_in _ (by omega)
                      have r5 : (r : Int) < (n1 : Int) := by omega
                      go_upto_region 31 with fail
                      go_region
                      have hns := (Hn1.out (y + d) (fun _ => Hy.out.symm)).drew
                      generalize (wo.setCell ⟨bu, r, none⟩ (.int .i64 (y + d))).drew = w2 at hns ⊢
                      clear H Hn1 Hy c2 c3 c4 b1 b3 z4 e6 hy0 hy1 r5
                      have H := Lib.hid hns
                      clear hns
                      have b2 := H.out.b2
                      have c3 := H.out.r4.vAt (k := k) hlt
                      rw [midF_ge (by omega)] at c3
                      have z4 := H.out.r4.hv.frozen k
                      obtain ⟨hy0, hy1⟩ := HSF.out.v0 k m5
                      have Hn1 := Lib.hid (fun x hx => H.out.setV (k := k) (x := x) (v' := midF V' s.v (k + 1)) hx (fun j _ hj => midF_step hj))
                      generalize s.v k = y at c3 hy0 hy1 V1
                      have e6 : IntKind.i64.wrap (y - d) = y - d := IntWalk.i64_in _ (by omega)
                      go_upto_region 32 with fail
                      go_region
                      go_wp2_with fail
                      refine ⟨⟨k + 1, by omega, by go_num, ((Hn1.out (y - d) (fun _ => by rw [midF_at, V1.out])).drew).congr (fun _ _ => rfl) (fun _ _ => rfl) (fun _ _ => rfl) (fun _ _ => rfl) (fun j _ => midF_same V2.out j) (fun _ _ => rfl)⟩, by simp [intOf]; omega⟩
                    · have hus : us' k = false := by simpa using hus
                      rw [hus] at c2
                      have Hus := Lib.hid hus
                      obtain ⟨v1, v2⟩ := HV.out.2 _ hus
                      have k1 : 1 ≤ k := by
                        by_cases k0 : k = 0
                        · subst k0; rw [HSF.out.m0] at hus; cases hus
                        · omega
                      clear hus
                      have V1 := Lib.hid v1
                      have V2 := Lib.hid v2
                      obtain ⟨hy0, hy1⟩ := HSF.out.slB k k1 (by omega) Hus.out
                      have c3 := H.out.slAt (k := k) hlt
                      rw [midF_ge (by omega)] at c3
                      have z4 := H.out.hsl.frozen k
                      have Hn1 := Lib.hid (fun x hx => H.out.setSl (k := k) (x := x) (sl' := midF S' sl' (k + 1)) hx (fun j _ hj => midF_step hj))
                      clear v1 v2
                      generalize sl' k = y at c3 hy0 hy1 V2
                      simp only [inf42] at hy1
                      have e6 : IntKind.i64.wrap (y - d) = y - d := IntWalk.i64_in _ (by omega)
                      go_wp2_with fail
                      refine ⟨⟨k + 1, by omega, by go_num, (Hn1.out (y - d) (fun _ => by rw [midF_at, V2.out])).congr (fun j _ => by rw [addU_skip Hus.out]) (fun j _ => midF_same V1.out j) (fun _ _ => rfl) (fun _ _ => rfl) (fun _ _ => rfl) (fun _ _ => rfl)⟩, by simp [intOf]; omega⟩
                  · have hkm : k = m := by omega
                    have kK : (K : Int) < (k : Int) := by omega
                    have H2 : Hid (SP w wo 91 bu bv br bf g bs bd (some ⟨ba, oa, none⟩) ca n n1 m (stepP c K inf42 row' s).u (stepP c K inf42 row' s).v row' (stepP c K inf42 row' s).fr (stepP c K inf42 row' s).sl (stepP c K inf42 row' s).us) := by
                      refine Lib.hid ?_
                      rw [Hst.out]
                      have e1 : k = K + 1 := by omega
                      exact H.out.congr (fun _ _ => by rw [e1]) (fun j hj => midF_lt (by omega)) (fun _ _ => rfl) (fun _ _ => rfl) (fun j hj => midF_lt (by omega)) (fun _ _ => rfl)
                    have Hat : Hid (nx = (stepP c K inf42 row' s).at_) := by
                      refine Lib.hid ?_
                      rw [Hst.out]
                    rw [Hat.out]
                    clear Hst HV H
                    go_wp2_with fail
                    go_roundg (gk - 1)
                    case measure => omega
                    case rel => exact ⟨_, tt + 1, rfl, by go_num, HP2.out, H2.out, by omega⟩

end Go.Proofs.Ytnacoglfhhenhaa
