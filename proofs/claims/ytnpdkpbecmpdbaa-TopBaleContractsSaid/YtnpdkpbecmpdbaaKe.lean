/-
  contract: Fits, of the code and of the reference; the cost of a bale for a contract.
-/
import Derived.Test.YtnpdkpbecmpdbaaKb
import Derived.Test.YtnpdkpbecmpdbaaG1
set_option linter.unusedVariables false
set_option linter.unusedSimpArgs false
namespace Go.Proofs.Ytnpdkpbecmpdbaa
open Go.RowKit

/-- Whether a bale fits. -/
def fitB (x : Ctr) (l : List (Int × Int)) (y : Bal) : Bool := decide (y.mat = x.m) && (decide ((ofG l y.mix x.m).2 = 0) && betterB l (ofG l y.mix x.m).1 x.g)
theorem fitB_no {x : Ctr} {l : List (Int × Int)} {y : Bal} (h : y.mat ≠ x.m) : fitB x l y = false := by unfold fitB; rw [decide_eq_false h]; rfl
theorem fitB_yes {x : Ctr} {l : List (Int × Int)} {y : Bal} (h : y.mat = x.m) : fitB x l y = (decide ((ofG l y.mix x.m).2 = 0) && betterB l (ofG l y.mix x.m).1 x.g) := by unfold fitB; rw [decide_eq_true h]; rfl
/-- A bale that fits has a mix without fault. -/
theorem fitB_mix {x : Ctr} {l : List (Int × Int)} {y : Bal} (h : fitB x l y = true) : faultL y.mix = 0 := by
  unfold fitB ofG at h
  simp only [Bool.and_eq_true, decide_eq_true_eq] at h
  obtain ⟨_, h1, _⟩ := h
  by_cases h2 : chkG l = 0
  · rw [if_pos h2] at h1
    by_cases h3 : (purL y.mix x.m).2 = 0
    · by_cases h4 : faultL y.mix = 0
      · exact h4
      · rw [purL_bad h4] at h3
        exact absurd h3 h4
    · rw [if_neg h3] at h1
      exact absurd h1 h3
  · rw [if_neg h2] at h1
    exact absurd h1 h2
/-- What is missing of a contract with a bale: -1 if it does not fit. -/
def costB (l : List (Int × Int)) (x : Ctr) (y : Bal) : Int := if fitB x l y then missC x (totL y.mix).1 else -1

set_option maxRecDepth 100000 in
set_option maxHeartbeats 3200000 in
theorem fits_any (x : Ctr) (y : Bal) {a a2 : Option Addr} {c c2 : Nat} {l : List (Int × Int)} {D D2 : Nat → Prop} {w : World} (hx : Grs D w a l) (hy : Ints D2 w a2 y.mix) :
    Calls Try.prog 19 #[.agg #[.int .i64 x.i, .int .i64 x.m, .int .i64 x.g, .int .i64 x.w, .int .i64 x.s, .int .i64 x.p, .int .i64 x.q], .slice a l.length c, .agg #[.int .i64 y.id, .int .i64 y.mat, .int .i64 y.tm, .slice a2 y.mix.length c2]] w fun e w' => e = .returned (.bool (fitB x l y)) ∧ Mod NoBlock w w' := by
  have m0 := ((Mod.refl NoBlock w).alloc (.cells #[.int .i64 x.i, .int .i64 x.m, .int .i64 x.g, .int .i64 x.w, .int .i64 x.s, .int .i64 x.p, .int .i64 x.q] 58)).alloc (.cells #[.int .i64 y.id, .int .i64 y.mat, .int .i64 y.tm, .slice a2 y.mix.length c2] 60)
  have B1 := Lib.hid ((rowIs_new w #[.int .i64 x.i, .int .i64 x.m, .int .i64 x.g, .int .i64 x.w, .int .i64 x.s, .int .i64 x.p, .int .i64 x.q] 58).alloc (.cells #[.int .i64 y.id, .int .i64 y.mat, .int .i64 y.tm, .slice a2 y.mix.length c2] 60))
  have b2 := rowIs_new (w.alloc (.cells #[.int .i64 x.i, .int .i64 x.m, .int .i64 x.g, .int .i64 x.w, .int .i64 x.s, .int .i64 x.p, .int .i64 x.q] 58)) #[.int .i64 y.id, .int .i64 y.mat, .int .i64 y.tm, .slice a2 y.mix.length c2] 60
  rw [show (w.alloc (.cells #[.int .i64 x.i, .int .i64 x.m, .int .i64 x.g, .int .i64 x.w, .int .i64 x.s, .int .i64 x.p, .int .i64 x.q] 58)).heap.size = w.heap.size + 1 by simp] at b2
  have B2 := Lib.hid b2
  have HX := Lib.hid (hx.frame m0)
  have HY := Lib.hid (hy.frame m0)
  have M0 := Lib.hid m0
  clear m0 b2 hx hy
  by_cases hm : y.mat = x.m
  case neg =>
    have hmb : (y.mat != x.m) = true := bne_iff_ne.2 hm
    rw [fitB_no hm]
    clear hm
    go_enter Try.func19, Try.ntmps19
    go_wp2_with fail
    go_ret
    exact ⟨rfl, M0.out⟩
  have hmb : (y.mat != x.m) = false := by rw [hm]; simp
  rw [fitB_yes hm]
  have hof := gradeOf_any a c l a2 c2 y.mix x.m D D2 _ HX.out HY.out
  have Hof := Lib.hid hof
  clear hof hm
  obtain ⟨p1, hp1⟩ : ∃ p1, (ofG l y.mix x.m).1 = p1 := ⟨_, rfl⟩
  obtain ⟨p2, hp2⟩ : ∃ p2, (ofG l y.mix x.m).2 = p2 := ⟨_, rfl⟩
  rw [hp1, hp2] at Hof ⊢
  clear hp1 hp2
  obtain ⟨vv, hvv⟩ : ∃ vv, (decide (p2 = 0) && betterB l p1 x.g) = vv := ⟨_, rfl⟩
  rw [hvv]
  have HV := Lib.hid hvv
  clear hvv
  go_enter Try.func19, Try.ntmps19
  go_upto_region 1 with fail
  generalize (w.alloc (.cells #[.int .i64 x.i, .int .i64 x.m, .int .i64 x.g, .int .i64 x.w, .int .i64 x.s, .int .i64 x.p, .int .i64 x.q] 58)).alloc (.cells #[.int .i64 y.id, .int .i64 y.mat, .int .i64 y.tm, .slice a2 y.mix.length c2] 60) = w1 at B1 B2 HX HY M0 Hof ⊢
  generalize w.heap.size = g1 at B1 B2 ⊢
  have e1 : w1.cell? ⟨g1, 1, none⟩ = some (.int .i64 x.m) := B1.out.cell (i := 1) (by show 1 < 7; omega)
  have e3 : w1.cell? ⟨g1 + 1, 3, none⟩ = some (.slice a2 y.mix.length c2) := B2.out.cell (i := 3) (by show 3 < 4; omega)
  have e2 : w1.cell? ⟨g1 + 1, 1, none⟩ = some (.int .i64 y.mat) := B2.out.cell (i := 1) (by show 1 < 4; omega)
  go_upto_region 4 with (go_at_call 20; refine Hof.out.mono ?_; rintro e w2 ⟨rfl, m⟩)
  have k2 : w2.cell? ⟨g1, 2, none⟩ = some (.int .i64 x.g) := m.cell (B1.out.cell (i := 2) (by show 2 < 7; omega)) id
  have HX2 := Lib.hid (HX.out.frame m)
  have M2 := Lib.hid (M0.out.trans m)
  clear e1 e2 e3 m Hof HX HY M0 B1 B2
  by_cases h0 : p2 = 0
  · have h0b : (p2 == 0) = true := by rw [h0]; rfl
    rw [decide_eq_true h0, Bool.true_and] at HV
    have Hb := Lib.hid (gradeBetter_any a c l p1 x.g D w2 HX2.out)
    rw [HV.out] at Hb
    clear h0
    go_wp2_with (go_at_call 21; refine Hb.out.mono ?_; rintro e w3 ⟨rfl, m⟩)
    have M3 := Lib.hid (M2.out.trans m)
    clear m
    go_wp2_with fail
    go_ret
    exact ⟨rfl, M3.out⟩
  · have h0b : (p2 == 0) = false := beq_eq_false_iff_ne.2 h0
    rw [decide_eq_false h0, Bool.false_and] at HV
    obtain rfl := HV.out
    clear h0
    go_wp2_with fail
    go_ret
    exact ⟨rfl, M2.out⟩

theorem balGrams_any (y : Bal) {a2 : Option Addr} {c2 : Nat} {D2 : Nat → Prop} {w : World} (hy : Ints D2 w a2 y.mix) :
    Calls Try.prog 22 #[.agg #[.int .i64 y.id, .int .i64 y.mat, .int .i64 y.tm, .slice a2 y.mix.length c2]] w fun e w' => e = .returned (.tuple #[.int .i64 (totL y.mix).1, .int .i64 (totL y.mix).2]) ∧ Mod NoBlock w w' := by
  have m0 := (Mod.refl NoBlock w).alloc (.cells #[.int .i64 y.id, .int .i64 y.mat, .int .i64 y.tm, .slice a2 y.mix.length c2] 60)
  have Ht := Lib.hid (matTotal_any a2 c2 y.mix D2 _ (hy.frame m0))
  have M0 := Lib.hid m0
  clear m0 hy
  go_enter Try.func22, Try.ntmps22
  go_wp2_with (go_at_call 27; refine Ht.out.mono ?_; rintro e w2 ⟨rfl, m⟩)
  have M2 := Lib.hid (M0.out.trans m)
  clear m
  go_wp2_with fail
  go_ret2
  exact ⟨rfl, M2.out⟩

theorem tot_fit {x : Ctr} {l : List (Int × Int)} {y : Bal} (h : fitB x l y = true) : (totL y.mix).2 = 0 ∧ 0 ≤ (totL y.mix).1 ∧ (totL y.mix).1 ≤ 17179869184 := by
  have h1 := fitB_mix h
  rw [totL_ok h1]
  have := sum_bound h1
  exact ⟨rfl, this.1, this.2⟩

set_option maxRecDepth 100000 in
set_option maxHeartbeats 3200000 in
theorem cost_any (x : Ctr) (y : Bal) {a a2 : Option Addr} {c c2 gp : Nat} {l : List (Int × Int)} {D D2 : Nat → Prop} {w : World} (hx : Grs D w a l) (hy : Ints D2 w a2 y.mix) (hN : NumC x) (hgp : w.cell? ⟨gp, 0, none⟩ = some (.slice a l.length c)) :
    Calls Try.prog 37 #[.agg #[.int .i64 x.i, .int .i64 x.m, .int .i64 x.g, .int .i64 x.w, .int .i64 x.s, .int .i64 x.p, .int .i64 x.q], .agg #[.int .i64 y.id, .int .i64 y.mat, .int .i64 y.tm, .slice a2 y.mix.length c2], .pointer (some ⟨gp, 0, none⟩)] w fun e w' => e = .returned (.int .i64 (costB l x y)) ∧ Mod NoBlock w w' := by
  have m0 := ((Mod.refl NoBlock w).alloc (.cells #[.int .i64 x.i, .int .i64 x.m, .int .i64 x.g, .int .i64 x.w, .int .i64 x.s, .int .i64 x.p, .int .i64 x.q] 58)).alloc (.cells #[.int .i64 y.id, .int .i64 y.mat, .int .i64 y.tm, .slice a2 y.mix.length c2] 60)
  have B1 := Lib.hid ((rowIs_new w #[.int .i64 x.i, .int .i64 x.m, .int .i64 x.g, .int .i64 x.w, .int .i64 x.s, .int .i64 x.p, .int .i64 x.q] 58).alloc (.cells #[.int .i64 y.id, .int .i64 y.mat, .int .i64 y.tm, .slice a2 y.mix.length c2] 60))
  have b2 := rowIs_new (w.alloc (.cells #[.int .i64 x.i, .int .i64 x.m, .int .i64 x.g, .int .i64 x.w, .int .i64 x.s, .int .i64 x.p, .int .i64 x.q] 58)) #[.int .i64 y.id, .int .i64 y.mat, .int .i64 y.tm, .slice a2 y.mix.length c2] 60
  rw [show (w.alloc (.cells #[.int .i64 x.i, .int .i64 x.m, .int .i64 x.g, .int .i64 x.w, .int .i64 x.s, .int .i64 x.p, .int .i64 x.q] 58)).heap.size = w.heap.size + 1 by simp] at b2
  have B2 := Lib.hid b2
  have HX := Lib.hid (hx.frame m0)
  have HY := Lib.hid (hy.frame m0)
  have Hgp := Lib.hid (m0.cell hgp id)
  have M0 := Lib.hid m0
  have HN := Lib.hid hN
  obtain ⟨vv, hvv⟩ : ∃ vv, costB l x y = vv := ⟨_, rfl⟩
  rw [hvv]
  have HV := Lib.hid hvv
  clear m0 b2 hx hy hgp hN hvv
  go_enter Try.func37, Try.ntmps37
  go_upto_region 1 with fail
  generalize (w.alloc (.cells #[.int .i64 x.i, .int .i64 x.m, .int .i64 x.g, .int .i64 x.w, .int .i64 x.s, .int .i64 x.p, .int .i64 x.q] 58)).alloc (.cells #[.int .i64 y.id, .int .i64 y.mat, .int .i64 y.tm, .slice a2 y.mix.length c2] 60) = w1 at B1 B2 HX HY M0 Hgp ⊢
  generalize w.heap.size = g1 at B1 B2 ⊢
  have hgp := Hgp.out
  have Hf := Lib.hid (fits_any x y (c := c) (c2 := c2) HX.out HY.out)
  have e0 : w1.cell? ⟨g1, 0, none⟩ = some (.int .i64 x.i) := B1.out.cell (i := 0) (by show 0 < 7; omega)
  have e1 : w1.cell? ⟨g1, 1, none⟩ = some (.int .i64 x.m) := B1.out.cell (i := 1) (by show 1 < 7; omega)
  have e2 : w1.cell? ⟨g1, 2, none⟩ = some (.int .i64 x.g) := B1.out.cell (i := 2) (by show 2 < 7; omega)
  have e3 : w1.cell? ⟨g1, 3, none⟩ = some (.int .i64 x.w) := B1.out.cell (i := 3) (by show 3 < 7; omega)
  have e4 : w1.cell? ⟨g1, 4, none⟩ = some (.int .i64 x.s) := B1.out.cell (i := 4) (by show 4 < 7; omega)
  have e5 : w1.cell? ⟨g1, 5, none⟩ = some (.int .i64 x.p) := B1.out.cell (i := 5) (by show 5 < 7; omega)
  have e6 : w1.cell? ⟨g1, 6, none⟩ = some (.int .i64 x.q) := B1.out.cell (i := 6) (by show 6 < 7; omega)
  have k0 : w1.cell? ⟨g1 + 1, 0, none⟩ = some (.int .i64 y.id) := B2.out.cell (i := 0) (by show 0 < 4; omega)
  have k1 : w1.cell? ⟨g1 + 1, 1, none⟩ = some (.int .i64 y.mat) := B2.out.cell (i := 1) (by show 1 < 4; omega)
  have k2 : w1.cell? ⟨g1 + 1, 2, none⟩ = some (.int .i64 y.tm) := B2.out.cell (i := 2) (by show 2 < 4; omega)
  have k3 : w1.cell? ⟨g1 + 1, 3, none⟩ = some (.slice a2 y.mix.length c2) := B2.out.cell (i := 3) (by show 3 < 4; omega)
  by_cases hb : fitB x l y = true
  case neg =>
    have hb' : fitB x l y = false := by simpa using hb
    obtain rfl : vv = -1 := by rw [← HV.out]; unfold costB; rw [hb']; rfl
    rw [hb'] at Hf
    clear hb hb'
    go_wp2_with (go_at_call 19; refine Hf.out.mono ?_; rintro e w2 ⟨rfl, m⟩)
    have M2 := Lib.hid (M0.out.trans m)
    clear m
    go_wp2_with fail
    go_ret
    exact ⟨rfl, M2.out⟩
  have hv : vv = missC x (totL y.mix).1 := by rw [← HV.out]; unfold costB; rw [hb]; rfl
  obtain ⟨t2, t0, t1⟩ := tot_fit hb
  rw [hb] at Hf
  obtain ⟨tt, htt⟩ : ∃ tt, (totL y.mix).1 = tt := ⟨_, rfl⟩
  have Ht := Lib.hid fun (w' : World) (m : Mod NoBlock w1 w') => (show Calls Try.prog 22 #[.agg #[.int .i64 y.id, .int .i64 y.mat, .int .i64 y.tm, .slice a2 y.mix.length c2]] w' fun e w'' => e = .returned (.tuple #[.int .i64 tt, .int .i64 0]) ∧ Mod NoBlock w' w'' by
    have := balGrams_any y (c2 := c2) (HY.out.frame m)
    rwa [t2, htt] at this)
  rw [htt] at t0 t1 hv
  have Hm := Lib.hid fun w' => missing_any x tt w' HN.out t0 (by omega)
  rw [← hv] at Hm
  clear hb t2 htt hv
  go_upto_region 3 with (go_at_call 19; refine Hf.out.mono ?_; rintro e w2 ⟨rfl, m⟩)
  have k0' := m.cell k0 id
  have k1' := m.cell k1 id
  have k2' := m.cell k2 id
  have k3' := m.cell k3 id
  have M2 := Lib.hid m
  have Ht2 := Lib.hid (Ht.out w2 m)
  clear k0 k1 k2 k3 hgp Hf m
  go_upto_region 4 with (go_at_call 22; refine Ht2.out.mono ?_; rintro e w3 ⟨rfl, m⟩)
  have m13 := M2.out.trans m
  have d0 := m13.cell e0 id
  have d1 := m13.cell e1 id
  have d2 := m13.cell e2 id
  have d3 := m13.cell e3 id
  have d4 := m13.cell e4 id
  have d5 := m13.cell e5 id
  have d6 := m13.cell e6 id
  have M3 := Lib.hid (M0.out.trans m13)
  clear e0 e1 e2 e3 e4 e5 e6 k0' k1' k2' k3' m m13
  go_wp2_with (go_at_call 38; refine (Hm.out _).mono ?_; rintro e w4 ⟨rfl, m⟩)
  have M4 := Lib.hid (M3.out.trans m)
  clear m
  go_wp2_with fail
  go_ret
  exact ⟨rfl, M4.out⟩

end Go.Proofs.Ytnpdkpbecmpdbaa
