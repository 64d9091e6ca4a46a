/-
  contract: Assign of the reference.
-/
import Derived.Test.YtnacoglfhhenhaaKh
set_option linter.unusedVariables false
set_option linter.unusedSimpArgs false
namespace Go.Proofs.Ytnacoglfhhenhaa
open Go.RowKit

set_option maxRecDepth 100000 in
set_option maxHeartbeats 12800000 in
theorem refAssign_any {D E F : Nat → Prop} {w : World} {a aG aB : Option Addr} {c cG cB : Nat} {l : List Ctr} {g : List (Int × Int)} {bs : List Bal} (hx : Ctrs D w a l) (hg : Grs E w aG g) (hb : Bals F w aB bs) (hbl : bs.length ≤ 60) :
    Calls Try.prog 17 #[.slice a l.length c, .slice aG g.length cG, .slice aB bs.length cB] w (AsgRes g l bs w) := by
  have HL := Lib.hid hx
  have HG := Lib.hid hg
  have HB := Lib.hid hb
  have hgl : g.length ≤ maxLen := hg.1
  have hll : l.length ≤ maxLen := hx.1
  simp only [maxLen] at hgl hll
  clear hx hg hb
  by_cases hg0 : chkG g = 0
  case neg =>
    have He : Hid (errA g l bs = chkG g) := Lib.hid (by unfold errA; rw [if_pos hg0])
    have Hi : Hid (AsgIs g l bs [] 0) := Lib.hid (.inl ⟨by rw [He.out]; exact hg0, rfl, rfl⟩)
    have Hc := Lib.hid (refGrades_mod aG cG g E w HG.out)
    have hgb : (chkG g != 0) = true := bne_iff_ne.2 hg0
    clear hg0
    generalize chkG g = e0 at Hc He hgb
    go_enter Try.func17, Try.ntmps17
    go_wp2_with (go_at_call 35; refine Hc.out.mono ?_; rintro e w2 ⟨rfl, m⟩)
    have M2 := Lib.hid m
    clear m
    go_wp2_with fail
    go_ret3
    exact ⟨none, 0, [], 0, by rw [He.out]; rfl, M2.out, Ints.nil _ _ _, Hi.out⟩
  have Hc := Lib.hid (refGrades_mod aG cG g E w HG.out)
  rw [hg0] at Hc
  have Hk := Lib.hid fun (w' : World) (m : Mod NoBlock w w') => refCheck52_any (c := c) (n := (g.length : Int)) (HL.out.frame m)
  by_cases hc0 : chkC l g.length = 0
  case neg =>
    have He : Hid (errA g l bs = chkC l g.length) := Lib.hid (by unfold errA; rw [if_neg (by rw [hg0]; decide), if_pos hc0])
    have Hi : Hid (AsgIs g l bs [] 0) := Lib.hid (.inl ⟨by rw [He.out]; exact hc0, rfl, rfl⟩)
    have hgb : (chkC l g.length != 0) = true := bne_iff_ne.2 hc0
    clear hg0 hc0
    generalize chkC l g.length = e0 at Hk He hgb
    go_enter Try.func17, Try.ntmps17
    go_upto_region 2 with (go_at_call 35; refine Hc.out.mono ?_; rintro e w2 ⟨rfl, m⟩)
    have Hk2 := Lib.hid (Hk.out _ m)
    have M2 := Lib.hid m
    clear m Hk Hc
    go_wp2_with (go_at_call 12; refine Hk2.out.mono ?_; rintro e w3 ⟨rfl, m⟩)
    have M3 := Lib.hid (M2.out.trans m)
    clear m
    go_wp2_with fail
    go_ret3
    exact ⟨none, 0, [], 0, by rw [He.out]; rfl, M3.out, Ints.nil _ _ _, Hi.out⟩
  have He : Hid (errA g l bs = chkM (costsL g l bs) (skipL l)) := Lib.hid (by unfold errA; rw [if_neg (by rw [hg0]; decide), if_neg (by rw [hc0]; decide)])
  obtain ⟨f1, f2, _⟩ := chkC_facts hc0
  have HN := Lib.hid fun i (hi : i < l.length) => (ctrE_ok (f2 i hi)).1
  rw [hc0] at Hk
  obtain ⟨n, hn⟩ : ∃ n, l.length = n := ⟨_, rfl⟩
  obtain ⟨nb, hnb⟩ : ∃ nb, bs.length = nb := ⟨_, rfl⟩
  have Hn := Lib.hid hn
  have Hnb := Lib.hid hnb
  have Hp := Lib.hid fun (w' : World) (m : Mod NoBlock w w') => problem_any (c := c) (cG := cG) (cB := cB) (HL.out.frame m) (HG.out.frame m) (HB.out.frame m) HN.out hn hnb (by omega) (by omega)
  rw [hn] at f1 hll Hk ⊢
  rw [hnb] at hbl ⊢
  clear hg0 hc0 f2 hn hnb HN
  go_enter Try.func17, Try.ntmps17
  go_upto_region 2 with (go_at_call 35; refine Hc.out.mono ?_; rintro e w2 ⟨rfl, m⟩)
  have Hk2 := Lib.hid (Hk.out _ m)
  have M2 := Lib.hid m
  clear m Hk Hc
  go_upto_region 7 with (go_at_call 12; refine Hk2.out.mono ?_; rintro e w3 ⟨rfl, m⟩)
  have M3 := Lib.hid (M2.out.trans m)
  clear m M2 Hk2
  have Hp3 := Lib.hid (Hp.out w3 M3.out)
  clear Hp
  go_wp2_with (go_at_call 37; refine Hp3.out.mono ?_; rintro e wo ⟨a1, c1, ad, rc, aS, cS, rfl, hcps⟩)
  have G := Lib.hid hcps
  clear hcps Hp3
  have hCe : costsL g l bs = rowsI n nb (costT g l bs) := by unfold costsL; rw [Hn.out, Hnb.out]
  have hSe : skipL l = rowI n (skipT l) := by unfold skipL; rw [Hn.out]
  have hmx := G.out.cp.mixes (by simp only [maxLen]; omega) (by simp only [maxLen]; omega)
  rw [← hCe] at hmx
  have hos := G.out.sk
  rw [rowV_map, ← hSe] at hos
  have his : Ints (fun b => w3.heap.size ≤ b) wo aS (skipL l) := hos.ints (fun b hb _ => hb) (by rw [hSe, rowI_length]; simp only [maxLen]; omega)
  have MW := Lib.hid (M3.out.trans G.out.cp.mod)
  have Hmx := Lib.hid hmx
  have His := Lib.hid his
  have HlC : Hid ((costsL g l bs).length = n) := Lib.hid (by rw [costsL_length]; exact Hn.out)
  have HlS : Hid ((skipL l).length = n) := Lib.hid (by rw [skipL_length]; exact Hn.out)
  have Hi0 : Hid (errA g l bs ≠ 0 → AsgIs g l bs [] 0) := Lib.hid fun h => .inl ⟨h, rfl, rfl⟩
  have Hi1 : Hid (∀ t wf, errA g l bs = 0 → First (tabM (costsL g l bs) (skipL l) (rx (costsL g l bs) 0).length) n (rx (costsL g l bs) 0).length t wf → AsgIs g l bs (rowI n (colZ (rx (costsL g l bs) 0).length wf)) t) := Lib.hid fun t wf h hF => .inr ⟨h, wf, by rw [Hn.out]; exact hF, by rw [Hn.out]⟩
  clear hCe hSe hmx hos his G
  obtain ⟨C, hC⟩ : ∃ C, costsL g l bs = C := ⟨_, rfl⟩
  obtain ⟨sk, hsk⟩ : ∃ sk, skipL l = sk := ⟨_, rfl⟩
  rw [hC] at Hmx HlC He Hi1
  rw [hsk] at His HlS He Hi1
  clear hC hsk
  by_cases hok : chkM C sk = 0
  case neg =>
    have hsv := refSolve_bad (c := c1) (d := cS) Hmx.out His.out hok
    rw [HlC.out, HlS.out] at hsv
    have Hsv := Lib.hid hsv
    have hb : (chkM C sk != 0) = true := bne_iff_ne.2 hok
    have He2 := Lib.hid (show errA g l bs ≠ 0 by rw [He.out]; exact hok)
    clear hsv hok
    generalize chkM C sk = e9 at Hsv hb He
    go_wp2_with (go_at_call 36; refine Hsv.out.mono ?_; rintro e w4 ⟨rfl, m⟩)
    have M4 := Lib.hid (MW.out.trans (m.alloc (.cells #[.slice none 0 0, .int .i64 0, .slice none 0 0, .slice none 0 0] 61)))
    clear m
    go_wp2_with fail
    go_ret3
    exact ⟨none, 0, [], 0, by rw [He.out]; rfl, M4.out, Ints.nil _ _ _, Hi0.out He2.out⟩
  obtain ⟨kk, hkk⟩ : ∃ kk, (rx C 0).length = kk := ⟨_, rfl⟩
  have Hsv := Lib.hid (refSolve_any (c := c1) (d := cS) Hmx.out His.out hok HlC.out hkk)
  rw [hkk] at Hi1
  rw [hok] at He
  clear hok hkk
  go_upto_region 8 with (go_at_call 36; refine Hsv.out.mono ?_; rintro e w4 ⟨t, wf, aC, cC, aU, nU, cU, aV, nV, cV, rfl, m, hF, hCc⟩)
  have m4 := m.alloc (.cells #[.slice aC n cC, .int .i64 t, .slice aU nU cU, .slice aV nV cV] 61)
  have HB4 := Lib.hid (rowIs_new w4 #[.slice aC n cC, .int .i64 t, .slice aU nU cU, .slice aV nV cV] 61)
  have HC4 := Lib.hid ((hCc.alloc (.cells #[.slice aC n cC, .int .i64 t, .slice aU nU cU, .slice aV nV cV] 61)).mono (D' := fun b => w.heap.size ≤ b) fun b _ hb => by have := MW.out.size; omega)
  have M4 := Lib.hid (MW.out.trans m4)
  have HI := Lib.hid (Hi1.out t wf He.out hF)
  clear m m4 hF hCc Hsv
  generalize w4.alloc (.cells #[.slice aC n cC, .int .i64 t, .slice aU nU cU, .slice aV nV cV] 61) = w5 at HB4 HC4 M4 ⊢
  generalize w4.heap.size = gm at HB4 ⊢
  have c0 : w5.cell? ⟨gm, 0, none⟩ = some (.slice aC n cC) := HB4.out.cell (i := 0) (by show 0 < 4; omega)
  have c1' : w5.cell? ⟨gm, 1, none⟩ = some (.int .i64 t) := HB4.out.cell (i := 1) (by show 1 < 4; omega)
  go_wp2_with (go_quiet (fail))
  go_ret3
  refine ⟨aC, cC, rowI n (colZ kk wf), t, ?_, M4.out.drewN _, HC4.out, HI.out⟩
  rw [He.out, rowI_length]
  rfl

end Go.Proofs.Ytnacoglfhhenhaa
