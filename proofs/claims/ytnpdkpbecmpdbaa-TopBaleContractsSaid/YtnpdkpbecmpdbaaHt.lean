/-
  match: the code's search for a column.
-/
import Derived.Test.YtnpdkpbecmpdbaaHp
import Derived.Test.YtnpdkpbecmpdbaaProg
import Derived.Deep.DeepCutAuto
import Derived.Deep.CutBlock
set_option linter.unusedVariables false
set_option linter.unusedSimpArgs false
namespace Go.Proofs.Ytnpdkpbecmpdbaa
open Go.RowKit

theorem infoIntM : (Try.prog.info? 3).map (fun i => (i.zero, i.size, i.bytes)) = some (some (.int .i64 0), 1, 8) := by kernel_rfl
theorem infoBoolM : (Try.prog.info? 4).map (fun i => (i.zero, i.size, i.bytes)) = some (some (.bool false), 1, 1) := by kernel_rfl

/-- What a search ends in. -/
def Found (c : Nat → Nat → Int) (n K n1 m bu bv br bf : Nat) (inf : Int) (row : Nat → Nat) (z : Int) (w w' : World) (s : PS) (tt : Nat) : Prop :=
  PI c n K inf row z tt s ∧ row s.at_ = 0 ∧ R4 w' bu bv br bf n1 m s.u s.v row s.fr ∧ Mod (Own4 bu bv br bf) w w'

theorem newStep (c : Nat → Nat → Int) (s : PS) (r : Nat) : (∀ j, markU s j = true → newSl c s r j = s.sl j ∧ newFr c s r j = s.fr j) ∧
    ∀ j, markU s j = false → (redC c s.u s.v r j < s.sl j → newSl c s r j = redC c s.u s.v r j ∧ newFr c s r j = s.at_) ∧ (¬ redC c s.u s.v r j < s.sl j → newSl c s r j = s.sl j ∧ newFr c s r j = s.fr j) := by
  refine ⟨fun j h => ⟨?_, ?_⟩, fun j h => ⟨fun h2 => ⟨?_, ?_⟩, fun h2 => ⟨?_, ?_⟩⟩⟩
  · unfold newSl; rw [if_pos h]
  · unfold newFr; rw [if_pos h]
  · unfold newSl; rw [if_neg (by rw [h]; decide), if_pos h2]
  · unfold newFr; rw [if_neg (by rw [h]; decide), if_pos h2]
  · unfold newSl; rw [if_neg (by rw [h]; decide), if_neg h2]
  · unfold newFr; rw [if_neg (by rw [h]; decide), if_neg h2]
theorem bestS_skip {us : Nat → Bool} {sl : Nat → Int} {inf : Int} {k : Nat} (h : us (k + 1) = true) : bestS us sl inf (k + 1) = bestS us sl inf k := by
  show (if _ then _ else _) = _
  rw [if_neg]; rw [h]; rintro ⟨h1, _⟩; cases h1
theorem bestS_take {us : Nat → Bool} {sl : Nat → Int} {inf : Int} {k : Nat} (h : us (k + 1) = false) (h2 : sl (k + 1) < (bestS us sl inf k).1) : bestS us sl inf (k + 1) = (sl (k + 1), k + 1) := if_pos ⟨h, h2⟩
theorem bestS_keep {us : Nat → Bool} {sl : Nat → Int} {inf : Int} {k : Nat} (h2 : ¬ sl (k + 1) < (bestS us sl inf k).1) : bestS us sl inf (k + 1) = bestS us sl inf k := if_neg fun h => h2 h.2

theorem addU_hit {us : Nat → Bool} {row : Nat → Nat} {d : Int} {u : Nat → Int} {k : Nat} (h : us k = true) : addU us row d u (k + 1) (row k) = addU us row d u k (row k) + d := by
  show (if _ then _ else _ : Nat → Int) (row k) = _
  rw [if_pos h]; exact if_pos rfl
theorem addU_miss {us : Nat → Bool} {row : Nat → Nat} {d : Int} {u : Nat → Int} {k r : Nat} (h : us k = true) (hr : r ≠ row k) : addU us row d u (k + 1) r = addU us row d u k r := by
  show (if _ then _ else _ : Nat → Int) r = _
  rw [if_pos h]; exact if_neg hr
theorem addU_skip {us : Nat → Bool} {row : Nat → Nat} {d : Int} {u : Nat → Int} {k : Nat} (h : us k = false) : addU us row d u (k + 1) = addU us row d u k := if_neg (by rw [h]; decide)

def inf60 : Int := 1152921504606846976

set_option maxRecDepth 100000 in
set_option maxHeartbeats 6400000 in
theorem path_any {D : Nat → Prop} {w : World} {bu bv br bf g ba oa ca n K n1 m i : Nat} {c0 c : Nat → Nat → Int} {ra ro rc : Nat → Nat} {u v : Nat → Int} {row fr : Nat → Nat} (hT : Tab D w ba oa n K c0 ra ro rc) (hD : ∀ b, D b → ¬ Own4 bu bv br bf b)
    (hcc : ∀ r j, c (r + 1) (j + 1) = c0 r j) (hc : CostOk c n K) (hd : HD c n K i row u v) (hi : i < n) (hnK : n ≤ K) (hK : K ≤ 100) (m1 : K < m) (m2 : m ≤ K + 1) (m3 : n < n1) (m4 : n1 ≤ n + 1) (hg : g ≠ bu ∧ g ≠ bv ∧ g ≠ br ∧ g ≠ bf)
    (hb : w.rowIs g 118 5 (fun i => (five bu bv br bf (some ⟨ba, oa, none⟩) ca n n1 m).getD i undef)) (hr : R4 w bu bv br bf n1 m u v row fr) :
    Calls Try.prog 68 #[.pointer (some ⟨g, 0, none⟩), .int .i64 ((i : Int) + 1)] w fun e w' => ∃ s tt, e = .returned (.int .i64 (s.at_ : Int)) ∧ Found c n K n1 m bu bv br bf inf60 (rootAt row (i + 1)) (v 0 + u (i + 1)) w w' s tt := by
  obtain ⟨f, f1, fK, ff⟩ := hd.free (by omega)
  have ffr : rootAt row (i + 1) f = 0 := by unfold rootAt; rw [if_neg (by omega)]; exact ff
  have g2 : w.cell? ⟨g, 2, none⟩ = some (.slice (some ⟨bv, 0, none⟩) m m) := hb.cell (i := 2) (by omega)
  have hmk := run_make_row' (P := Try.prog) 31 3 (.int .i64 0) 8 Try.underlying31 infoIntM rfl .i64 .i64 m (by omega) (by omega)
  have hmk2 := run_make_row' (P := Try.prog) 134 4 (.bool false) 1 Try.underlying134 infoBoolM rfl .i64 .i64 m (by omega) (by omega)
  have gg : g < w.heap.size := hb.lt
  have hz : -1125899906842624 ≤ v 0 + u (i + 1) ∧ v 0 + u (i + 1) ≤ 1125899906842624 := by
    have h1 := hd.pot.uLe hc f1 fK ff (r := i + 1) (by omega) (by omega)
    have h2 := hd.vz
    simp only [far] at h1 h2
    omega
  have h3 : bu < w.heap.size ∧ bv < w.heap.size ∧ br < w.heap.size ∧ bf < w.heap.size := ⟨hr.hu.lt, hr.hv.lt, hr.hrow.lt, hr.hfr.lt⟩
  have Hs0 : Hid (SP w ((w.alloc (.cells (madeCells #[.int .i64 0] m) 3)).alloc (.cells (madeCells #[.bool false] m) 4)) 118 bu bv br bf g w.heap.size (w.heap.size + 1) (some ⟨ba, oa, none⟩) ca n n1 m u v row fr (fun _ => 0) (fun _ => false)) := Lib.hid
    ⟨((Mod.refl _ w).alloc _).alloc _, (hb.alloc _).alloc _, (hr.alloc _).alloc _, (World.rowIs_made w (.int .i64 0) m 3).alloc _, by
      have := World.rowIs_made (w.alloc (.cells (madeCells #[.int .i64 0] m) 3)) (.bool false) m 4
      simpa using this, hg, by omega, h3, by omega, by omega⟩
  have Hs1 : Hid (SP w ((w.alloc (.cells (madeCells #[.bool false] m) 4)).alloc (.cells (madeCells #[.int .i64 0] m) 3)) 118 bu bv br bf g (w.heap.size + 1) w.heap.size (some ⟨ba, oa, none⟩) ca n n1 m u v row fr (fun _ => 0) (fun _ => false)) := Lib.hid
    ⟨((Mod.refl _ w).alloc _).alloc _, (hb.alloc _).alloc _, (hr.alloc _).alloc _, by
      have := World.rowIs_made (w.alloc (.cells (madeCells #[.bool false] m) 4)) (.int .i64 0) m 3
      simpa using this, (World.rowIs_made w (.bool false) m 4).alloc _, hg, by omega, h3, by omega, by omega⟩
  have HT := Lib.hid hT
  have HD9 := Lib.hid hD
  have HC := Lib.hid hc
  have HCC := Lib.hid hcc
  have HR := Lib.hid (hd.rowOk hi)
  have HS := Lib.hid (fun fr => hd.start (inf := inf60) hi fr)
  have HZ := Lib.hid hz
  have HF := Lib.hid ffr
  have H00 := Lib.hid (show rootAt row (i + 1) 0 = i + 1 from rfl)
  have H01 := Lib.hid (show ∀ j, j ≠ 0 → rootAt row (i + 1) j = row j from fun j hj => if_neg hj)
  clear hT hD hc hd hb hr ff hcc hz ffr
  generalize hrow' : rootAt row (i + 1) = row' at HR HS HF H00 H01 ⊢
  clear hrow'
  generalize hz9 : v 0 + u (i + 1) = z at HS HZ ⊢
  clear hz9
  have i1 : (i : Int) < (K : Int) := by omega
  go_enter Try.func68, Try.ntmps68
  go_upto_region 2 with fail
  go_cut [6, 7] (fun s6 s7 wx => ∃ bs bd, s6 = .slice (some ⟨bs, 0, none⟩) m m ∧ s7 = .slice (some ⟨bd, 0, none⟩) m m ∧ Hid (SP w wx 118 bu bv br bf g bs bd (some ⟨ba, oa, none⟩) ca n n1 m u v row fr (fun _ => 0) (fun _ => false)))
  case first =>
    go_region
    all_goals (go_wp2_with fail; go_meet; exact ⟨_, _, rfl, rfl, by first | exact Hs0 | exact Hs1 | exact Lib.hid (Hs0.out.drewN _) | exact Lib.hid (Hs1.out.drewN _)⟩)
  case rest =>
    obtain ⟨bs, bd, rfl, rfl, Hs⟩ := hcut
    clear hmk hmk2 g2 Hs0 Hs1
    go_wp2_with fail
    go_loopw [27] (fun i wr => ∃ k : Nat, k ≤ m ∧ i = .int .i64 k ∧ SP w wr 118 bu bv br bf g bs bd (some ⟨ba, oa, none⟩) ca n n1 m u v row fr (midF (fun _ => inf60) (fun _ => 0) k) (fun _ => false)) (fun i _ => m - (intOf i).toNat)
    case atStart => exact ⟨0, by omega, rfl, Hs.out.congr (fun _ _ => rfl) (fun _ _ => rfl) (fun _ _ => rfl) (fun _ _ => rfl) (fun j _ => by rw [midF_ge (Nat.not_lt_zero j)]) (fun _ _ => rfl)⟩
    case round =>
      clear Hs
      obtain ⟨k, hk, rfl, hsp⟩ := hrel
      have H := Lib.hid hsp
      clear hsp
      obtain ⟨wo, rfl⟩ : ∃ wo : World, wo = wr := ⟨_, rfl⟩
      by_cases hlt : k < m
      · have f0 := H.out.hsl.frozen k
        have c0 := H.out.slAt hlt
        rw [midF_ge (by omega)] at c0
        go_wp2_with fail
        refine ⟨⟨k + 1, by omega, by go_num, H.out.setSl (fun _ => by rw [midF_at]; rfl) (fun j hj e => midF_step e)⟩, by simp [intOf]; omega⟩
      · have hkm : m = k := by omega
        subst hkm
        replace H := Lib.hid (H.out.congr (fun _ _ => rfl) (fun _ _ => rfl) (fun _ _ => rfl) (fun _ _ => rfl) (fun j hj => midF_lt (F' := fun _ => inf60) hj) (fun _ _ => rfl))
        have b3 := H.out.b3
        have f0 := H.out.r4.hrow.frozen 0
        have c0 := H.out.r4.rowAt (k := 0) (by omega)
        clear hlt hk
        go_wp2_with fail
        have hns := H.out.setRow (k := 0) (x := i + 1) (row' := row') (fun _ => H00.out.symm) (fun j _ hj => (H01.out j hj).symm)
        rw [Int.natCast_add, Int.natCast_one] at hns
        generalize wo.setCell ⟨br, 0, none⟩ (.int .i64 ((i : Int) + 1)) = w1 at hns ⊢
        have Hs := Lib.hid hns
        clear hns b3 f0 c0 H H00 H01
        go_loopg [9] (K + 1) (fun k at_ wr => ∃ s tt, at_ = .int .i64 (s.at_ : Int) ∧ PI c n K inf60 row' z tt s ∧ SP w wr 118 bu bv br bf g bs bd (some ⟨ba, oa, none⟩) ca n n1 m s.u s.v row' s.fr s.sl s.us ∧ tt + k = K + 1)
        case atStart => exact ⟨_, 0, rfl, HS.out fr, Hs.out, by omega⟩
        case round =>
          clear Hs HS
          clear wo w1
          obtain ⟨s, tt, rfl, hpi, hsp, htk⟩ := hrel
          have HP := Lib.hid hpi
          have H := Lib.hid hsp
          have aK := hpi.atK
          clear hpi hsp
          obtain ⟨wo, rfl⟩ : ∃ wo : World, wo = wr := ⟨_, rfl⟩
          have b3 := H.out.b3
          have c1 := H.out.r4.rowAt (k := s.at_) (by omega)
          have am : (s.at_ : Int) < (m : Int) := by omega
          by_cases hat : row' s.at_ = 0
          · rw [hat] at c1
            have Hat := Lib.hid hat
            clear hat
            go_wp2_with fail
            go_ret
            exact ⟨s, tt, rfl, HP.out, Hat.out, H.out.r4, H.out.mod⟩
          · obtain ⟨hSF, hP2⟩ := HP.out.facts HR.out HC.out hat f1 fK HF.out (by decide) HZ.out
            have tK := hSF.tK
            obtain ⟨r0, hr0⟩ : ∃ r0, row' s.at_ = r0 + 1 := ⟨row' s.at_ - 1, by omega⟩
            have rn := (hSF.mr _ (markU_at s)).2.2
            rw [hr0] at c1 hSF rn
            have Hr0 := Lib.hid hr0
            have f1' := H.out.hus.frozen s.at_
            have c2 := H.out.usAt (k := s.at_) (by omega)
            clear hr0 hat
            go_upto_region 12 with fail
            have hns := H.out.setUs (k := s.at_) (x := true) (us' := markU s) (fun _ => (markU_at s).symm) (fun j _ hj => (if_neg hj).symm)
            generalize wo.setCell ⟨bd, s.at_, none⟩ (.bool true) = w1 at hns ⊢
            clear b3 c1 f1' c2 H
            have H := Lib.hid hns
            clear hns
            have b3 := H.out.b3
            have c1 := H.out.r4.rowAt (k := s.at_) (by omega)
            rw [Hr0.out, Int.natCast_add, Int.natCast_one] at c1
            have HSF := Lib.hid hSF
            have HP2 := Lib.hid hP2
            have Hnew := Lib.hid (newStep c s (r0 + 1))
            have hst : stepP c K inf60 row' s = { u := addU (markU s) row' (bestS (markU s) (newSl c s (r0 + 1)) inf60 K).1 s.u (K + 1), v := fun j => if markU s j then s.v j - (bestS (markU s) (newSl c s (r0 + 1)) inf60 K).1 else s.v j, sl := fun j => if markU s j then newSl c s (r0 + 1) j else newSl c s (r0 + 1) j - (bestS (markU s) (newSl c s (r0 + 1)) inf60 K).1, fr := newFr c s (r0 + 1), us := markU s, at_ := (bestS (markU s) (newSl c s (r0 + 1)) inf60 K).2 } := by
              unfold stepP; rw [Hr0.out]
            have Hst := Lib.hid hst
            clear hst
            clear hSF hP2
            generalize newSl c s (r0 + 1) = sl' at HSF Hnew Hst
            generalize newFr c s (r0 + 1) = fr' at Hnew Hst
            generalize markU s = us' at HSF Hnew Hst H
            go_wp2_with fail
            go_loopw [11, 12, 13] (fun d nx j wr => ∃ k : Nat, k ≤ K ∧ j = .int .i64 ((k : Int) + 1) ∧ d = .int .i64 (bestS us' sl' inf60 k).1 ∧ nx = .int .i64 ((bestS us' sl' inf60 k).2 : Int) ∧ SP w wr 118 bu bv br bf g bs bd (some ⟨ba, oa, none⟩) ca n n1 m s.u s.v row' (midF fr' s.fr (k + 1)) (midF sl' s.sl (k + 1)) us') (fun _ _ j _ => K + 1 - (intOf j).toNat)
            case atStart =>
              obtain ⟨e1, e2⟩ := Hnew.out.1 0 HSF.out.m0
              refine ⟨0, by omega, rfl, rfl, rfl, H.out.congr (fun _ _ => rfl) (fun _ _ => rfl) (fun _ _ => rfl) (fun j _ => ?_) (fun j _ => ?_) (fun _ _ => rfl)⟩
              · rw [← midF_same e2, midF_ge (Nat.not_lt_zero j)]
              · rw [← midF_same e1, midF_ge (Nat.not_lt_zero j)]
            case round =>
              clear H b3 c1
              clear wo w1
              obtain ⟨k, hk, rfl, rfl, rfl, hsp⟩ := hrel
              have H := Lib.hid hsp
              clear hsp
              obtain ⟨wo, rfl⟩ : ∃ wo : World, wo = wr := ⟨_, rfl⟩
              by_cases hlt : k < K
              · have km : (k : Int) + 1 < (m : Int) := by omega
                have k0 : (0 : Int) ≤ (k : Int) + 1 := by omega
                have c2 := H.out.usAt (k := k + 1) (by omega)
                by_cases hus : us' (k + 1) = true
                · rw [hus] at c2
                  have Hus := Lib.hid hus
                  clear hus
                  go_wp2_with fail
                  obtain ⟨e1, e2⟩ := Hnew.out.1 _ Hus.out
                  refine ⟨⟨k + 1, by omega, by go_num, by rw [bestS_skip Hus.out], by rw [bestS_skip Hus.out], H.out.congr (fun _ _ => rfl) (fun _ _ => rfl) (fun _ _ => rfl) (fun j _ => midF_same e2 j) (fun j _ => midF_same e1 j) (fun _ _ => rfl)⟩, by simp [intOf]; omega⟩
                · have hus : us' (k + 1) = false := by simpa using hus
                  rw [hus] at c2
                  have Hus := Lib.hid hus
                  clear hus
                  have kK : (k : Int) < (K : Int) := by omega
                  have b0 := H.out.b0
                  have b1 := H.out.b1
                  have b2 := H.out.b2
                  have d0 := H.out.mod.cell (HT.out.rows r0 (by omega)) (HD9.out _ (HT.out.base (by omega)))
                  have d1 := H.out.mod.cell (HT.out.cells r0 (by omega) k hlt) (HD9.out _ (HT.out.own r0 (by omega)))
                  have d2 := H.out.r4.uAt (k := r0 + 1) (by omega)
                  have d3 := H.out.r4.vAt (k := k + 1) (by omega)
                  have d4 := H.out.slAt (k := k + 1) (by omega)
                  rw [midF_ge (by omega)] at d4
                  have r1 : (r0 : Int) < (n : Int) := by omega
                  have r2 : (r0 : Int) + 1 < (n1 : Int) := by omega
                  have r3 : (n : Int) ≤ 100 := by omega
                  have Hx := Lib.hid (HC.out (r0 + 1) (by omega) (by omega) (k + 1) (by omega) (by omega))
                  rw [HCC.out] at Hx
                  have Hy := Lib.hid (HSF.out.uB (r0 + 1) (by omega) rn)
                  have Hz9 := Lib.hid (HSF.out.vB (k + 1) (by omega) (by omega))
                  have Hred := Lib.hid (show redC c s.u s.v (r0 + 1) (k + 1) = c0 r0 k - s.u (r0 + 1) - s.v (k + 1) by unfold redC; rw [HCC.out])
                  have Hn2 := Lib.hid (Hnew.out.2 _ Hus.out)
                  rw [Hred.out] at Hn2
                  clear Hred
                  generalize c0 r0 k = x at d1 Hx Hn2
                  generalize s.u (r0 + 1) = y at d2 Hy Hn2
                  generalize s.v (k + 1) = v1 at d3 Hz9 Hn2
                  generalize hq : s.sl (k + 1) = q at d4 Hn2
                  have Hq := Lib.hid hq
                  clear hq
                  have hx := Hx.out
                  have hy := Hy.out
                  have hv := Hz9.out
                  simp only [far] at hx hy hv
                  have e6 : IntKind.i64.wrap (x - y) = x - y := IntWalk.i64_in _ (by omega)
                  have e7 : IntKind.i64.wrap (x - y - v1) = x - y - v1 := IntWalk.i64_in _ (by omega)
                  clear hx hy hv
                  go_upto_region 18 with (go_quiet (fail))
                  have hns := H.out.drewN nq
                  generalize wo.drewN nq = w2 at hns ⊢
                  clear H b0 b1 b2 c2 d0 d1 d2 d3 d4 r3 e6 e7
                  have H := Lib.hid hns
                  clear hns
                  have d4 := H.out.slAt (k := k + 1) (by omega)
                  rw [midF_ge (by omega), Hq.out] at d4
                  generalize x - y - v1 = red at Hn2 ⊢
                  have HbT := Lib.hid (fun h => bestS_take (us := us') (sl := sl') (inf := inf60) (k := k) Hus.out h)
                  have HbK := Lib.hid (fun h => bestS_keep (us := us') (sl := sl') (inf := inf60) (k := k) h)
                  generalize hB : bestS us' sl' inf60 k = B at HbT HbK ⊢
                  clear hB
                  by_cases hlt3 : red < q
                  · obtain ⟨e1, e2⟩ := Hn2.out.1 hlt3
                    have b4 := H.out.b4
                    have z1 := H.out.hsl.frozen (k + 1)
                    have hn1 := H.out.setSl (k := k + 1) (x := red) (sl' := midF sl' s.sl (k + 1 + 1)) (fun _ => by rw [midF_at, e1]) (fun j _ hj => midF_step hj)
                    have z2 := hn1.r4.hfr.frozen (k + 1)
                    have d5 := hn1.r4.frAt (k := k + 1) (by omega)
                    have Hn1 := Lib.hid hn1
                    have E1 := Lib.hid e1
                    have E2 := Lib.hid e2
                    clear e1 e2 Hn2 hn1
                    go_upto_region 20 with fail
                    have hns := Hn1.out.setFr (k := k + 1) (x := s.at_) (fr' := midF fr' s.fr (k + 1 + 1)) (fun _ => by rw [midF_at, E2.out]) (fun j _ hj => midF_step hj)
                    generalize (w2.setCell ⟨bs, k + 1, none⟩ (.int .i64 red)).setCell ⟨bf, k + 1, none⟩ (.int .i64 (s.at_ : Int)) = w3 at hns ⊢
                    clear H Hn1 b4 z1 z2 d4 d5
                    have H := Lib.hid hns
                    clear hns
                    have d4 := H.out.slAt (k := k + 1) (by omega)
                    rw [midF_at, E1.out] at d4
                    rw [E1.out] at HbT HbK
                    by_cases hlt4 : red < B.1
                    · have Hb := Lib.hid (HbT.out (by omega))
                      clear HbT HbK
                      go_wp2_with fail
                      refine ⟨⟨k + 1, by omega, by go_num, by rw [Hb.out], by rw [Hb.out]; rfl, H.out⟩, by simp [intOf]; omega⟩
                    · have Hb := Lib.hid (HbK.out (by omega))
                      clear HbT HbK
                      go_wp2_with fail
                      refine ⟨⟨k + 1, by omega, by go_num, by rw [Hb.out], by rw [Hb.out], H.out⟩, by simp [intOf]; omega⟩
                  · obtain ⟨e1, e2⟩ := Hn2.out.2 (by omega)
                    rw [e1] at HbT HbK
                    have H5 := Lib.hid (H.out.congr (fun _ _ => rfl) (fun _ _ => rfl) (fun _ _ => rfl) (fun j _ => midF_same e2 j) (fun j _ => midF_same (e1.trans Hq.out.symm) j) (fun _ _ => rfl))
                    clear e1 e2 Hn2 H
                    by_cases hlt4 : q < B.1
                    · have Hb := Lib.hid (HbT.out (by omega))
                      clear HbT HbK
                      go_wp2_with fail
                      refine ⟨⟨k + 1, by omega, by go_num, by rw [Hb.out], by rw [Hb.out]; rfl, H5.out⟩, by simp [intOf]; omega⟩
                    · have Hb := Lib.hid (HbK.out (by omega))
                      clear HbT HbK
                      go_wp2_with fail
                      refine ⟨⟨k + 1, by omega, by go_num, by rw [Hb.out], by rw [Hb.out], H5.out⟩, by simp [intOf]; omega⟩
              · have hkK : K = k := by omega
                subst hkK
                replace H := Lib.hid (H.out.congr (fun _ _ => rfl) (fun _ _ => rfl) (fun _ _ => rfl) (fun j hj => midF_lt (F' := fr') (by omega)) (fun j hj => midF_lt (F' := sl') (by omega)) (fun _ _ => rfl))
                clear hlt hk Hnew
                obtain ⟨d, hd⟩ : ∃ d, (bestS us' sl' inf60 K).1 = d := ⟨_, rfl⟩
                obtain ⟨nx, hnx⟩ : ∃ nx, (bestS us' sl' inf60 K).2 = nx := ⟨_, rfl⟩
                rw [hd] at HSF Hst ⊢
                rw [hnx] at Hst ⊢
                clear hd hnx
                have HV : Hid ((∀ j, us' j = true → (if us' j then s.v j - d else s.v j) = s.v j - d ∧ (if us' j then sl' j else sl' j - d) = sl' j) ∧ ∀ j, us' j = false → (if us' j then s.v j - d else s.v j) = s.v j ∧ (if us' j then sl' j else sl' j - d) = sl' j - d) := Lib.hid ⟨fun j h => ⟨if_pos h, if_pos h⟩, fun j h => ⟨if_neg (by rw [h]; decide), if_neg (by rw [h]; decide)⟩⟩
                obtain ⟨V', hV⟩ : ∃ V' : Nat → Int, V' = fun j => if us' j then s.v j - d else s.v j := ⟨_, rfl⟩
                obtain ⟨S', hS⟩ : ∃ S' : Nat → Int, S' = fun j => if us' j then sl' j else sl' j - d := ⟨_, rfl⟩
                rw [← hV, ← hS] at Hst
                replace HV : Hid ((∀ j, us' j = true → V' j = s.v j - d ∧ S' j = sl' j) ∧ ∀ j, us' j = false → V' j = s.v j ∧ S' j = sl' j - d) := by rw [hV, hS]; exact HV
                clear hV hS
                obtain ⟨dB0, dB1⟩ := HSF.out.dB
                have dB2 : d ≤ 1152921504606846976 := dB1
                clear dB1
                go_wp2_with fail
                go_loopw [124] (fun i wr => ∃ k : Nat, k ≤ m ∧ i = .int .i64 k ∧ SP w wr 118 bu bv br bf g bs bd (some ⟨ba, oa, none⟩) ca n n1 m (addU us' row' d s.u k) (midF V' s.v k) row' fr' (midF S' sl' k) us') (fun i _ => m - (intOf i).toNat)
                case atStart => exact ⟨0, by omega, rfl, H.out.congr (fun _ _ => rfl) (fun j _ => by rw [midF_ge (Nat.not_lt_zero j)]) (fun _ _ => rfl) (fun _ _ => rfl) (fun j _ => by rw [midF_ge (Nat.not_lt_zero j)]) (fun _ _ => rfl)⟩
                case round =>
                  clear H
                  clear wo
                  obtain ⟨k, hk, rfl, hsp⟩ := hrel
                  have H := Lib.hid hsp
                  clear hsp
                  obtain ⟨wo, rfl⟩ : ∃ wo : World, wo = wr := ⟨_, rfl⟩
                  by_cases hlt : k < m
                  · have km : (k : Int) < (m : Int) := by omega
                    have c2 := H.out.usAt (k := k) hlt
                    by_cases hus : us' k = true
                    · rw [hus] at c2
                      have Hus := Lib.hid hus
                      clear hus
                      obtain ⟨v1, v2⟩ := HV.out.1 _ Hus.out
                      obtain ⟨m5, m6, m7⟩ := HSF.out.mr _ Hus.out
                      have b1 := H.out.b1
                      have b3 := H.out.b3
                      have c3 := H.out.r4.rowAt (k := k) hlt
                      have c4 := H.out.r4.uAt (k := row' k) (by omega)
                      have z4 := H.out.r4.hu.frozen (row' k)
                      have Hn1 := Lib.hid (fun x hx => H.out.setU (k := row' k) (x := x) (u' := addU us' row' d s.u (k + 1)) hx (fun j _ hj => (addU_miss Hus.out hj).symm))
                      have hy := HSF.out.aB k (row' k) m6 m7
                      have Hy := Lib.hid (addU_hit (row := row') (d := d) (u := s.u) Hus.out)
                      have V1 := Lib.hid v1
                      have V2 := Lib.hid v2
                      clear v1 v2
                      generalize addU us' row' d s.u k (row' k) = y at c4 hy Hy
                      generalize row' k = r at c3 c4 m6 m7 z4 Hn1 Hy
                      obtain ⟨hy0, hy1⟩ := hy
                      simp only [far, inf60] at hy1
                      have e6 : IntKind.i64.wrap (y + d) = y + d := IntWalk.i64_in _ (by omega)
                      have r5 : (r : Int) < (n1 : Int) := by omega
                      go_upto_region 26 with fail
                      go_region
                      have hns := (Hn1.out (y + d) (fun _ => Hy.out.symm)).drew
                      generalize (wo.setCell ⟨bu, r, none⟩ (.int .i64 (y + d))).drew = w2 at hns ⊢
                      clear H Hn1 Hy c2 c3 c4 b1 b3 z4 e6 hy0 hy1 r5
                      have H := Lib.hid hns
                      clear hns
                      have b2 := H.out.b2
                      have c3 := H.out.r4.vAt (k := k) hlt
                      rw [midF_ge (by omega)] at c3
                      have z4 := H.out.r4.hv.frozen k
                      obtain ⟨hy0, hy1⟩ := HSF.out.v0 k m5
                      have Hn1 := Lib.hid (fun x hx => H.out.setV (k := k) (x := x) (v' := midF V' s.v (k + 1)) hx (fun j _ hj => midF_step hj))
                      generalize s.v k = y at c3 hy0 hy1 V1
                      have e6 : IntKind.i64.wrap (y - d) = y - d := IntWalk.i64_in _ (by omega)
                      go_wp2_with fail
                      refine ⟨⟨k + 1, by omega, by go_num, (Hn1.out (y - d) (fun _ => by rw [midF_at, V1.out])).congr (fun _ _ => rfl) (fun _ _ => rfl) (fun _ _ => rfl) (fun _ _ => rfl) (fun j _ => midF_same V2.out j) (fun _ _ => rfl)⟩, by simp [intOf]; omega⟩
                    · have hus : us' k = false := by simpa using hus
                      rw [hus] at c2
                      have Hus := Lib.hid hus
                      obtain ⟨v1, v2⟩ := HV.out.2 _ hus
                      have k1 : 1 ≤ k := by
                        by_cases k0 : k = 0
                        · subst k0; rw [HSF.out.m0] at hus; cases hus
                        · omega
                      clear hus
                      have V1 := Lib.hid v1
                      have V2 := Lib.hid v2
                      obtain ⟨hy0, hy1⟩ := HSF.out.slB k k1 (by omega) Hus.out
                      have c3 := H.out.slAt (k := k) hlt
                      rw [midF_ge (by omega)] at c3
                      have z4 := H.out.hsl.frozen k
                      have Hn1 := Lib.hid (fun x hx => H.out.setSl (k := k) (x := x) (sl' := midF S' sl' (k + 1)) hx (fun j _ hj => midF_step hj))
                      clear v1 v2
                      generalize sl' k = y at c3 hy0 hy1 V2
                      simp only [inf60] at hy1
                      have e6 : IntKind.i64.wrap (y - d) = y - d := IntWalk.i64_in _ (by omega)
                      go_wp2_with fail
                      refine ⟨⟨k + 1, by omega, by go_num, (Hn1.out (y - d) (fun _ => by rw [midF_at, V2.out])).congr (fun j _ => by rw [addU_skip Hus.out]) (fun j _ => midF_same V1.out j) (fun _ _ => rfl) (fun _ _ => rfl) (fun _ _ => rfl) (fun _ _ => rfl)⟩, by simp [intOf]; omega⟩
                  · have hkm : k = m := by omega
                    have H2 : Hid (SP w wo 118 bu bv br bf g bs bd (some ⟨ba, oa, none⟩) ca n n1 m (stepP c K inf60 row' s).u (stepP c K inf60 row' s).v row' (stepP c K inf60 row' s).fr (stepP c K inf60 row' s).sl (stepP c K inf60 row' s).us) := by
                      refine Lib.hid ?_
                      rw [Hst.out]
                      have e1 : k = K + 1 := by omega
                      exact H.out.congr (fun _ _ => by rw [e1]) (fun j hj => midF_lt (by omega)) (fun _ _ => rfl) (fun _ _ => rfl) (fun j hj => midF_lt (by omega)) (fun _ _ => rfl)
                    have Hat : Hid (nx = (stepP c K inf60 row' s).at_) := by
                      refine Lib.hid ?_
                      rw [Hst.out]
                    rw [Hat.out]
                    clear Hst HV H
                    go_wp2_with fail
                    go_roundg (gk - 1)
                    case measure => omega
                    case rel => exact ⟨_, tt + 1, rfl, HP2.out, H2.out, by omega⟩

end Go.Proofs.Ytnpdkpbecmpdbaa
