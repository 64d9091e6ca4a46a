/-
  The law CameraPure walked.
-/
import Derived.Test.YtgoccfjmghhaoaaCw
import Derived.Test.YtgoccfjmghhaoaaOpen
set_option linter.unusedVariables false
set_option linter.unusedSimpArgs false
namespace Go.Proofs.Ytgoccfjmghhaoaa
open Go.RowKit

def purF (F : Nat → Int) (S : Int) (m : Nat) : Int := F m * 1000 / S
theorem purF_sum (F : Nat → Int) {S : Int} (hS : 0 < S) : ∀ k, S * sumF (purF F S) k ≤ 1000 * sumF F k ∧ 1000 * sumF F k ≤ S * sumF (purF F S) k + k * (S - 1)
  | 0 => by simp [sumF]
  | k + 1 => by
    obtain ⟨h1, h2⟩ := purF_sum F hS k
    simp only [sumF]
    have h3 := Int.mul_ediv_add_emod (F k * 1000) S
    have h4 := Int.emod_nonneg (F k * 1000) (by omega : S ≠ 0)
    have h5 := Int.emod_lt_of_pos (F k * 1000) hS
    have e : purF F S k = F k * 1000 / S := rfl
    rw [e, Int.mul_add]
    have e2 : ((k + 1 : Nat) : Int) * (S - 1) = k * (S - 1) + (S - 1) := by rw [Int.natCast_add, Int.add_mul]; simp
    rw [e2]
    generalize F k * 1000 / S = q at *
    omega
theorem purF_le {F : Nat → Int} {S : Int} (hS : 0 < S) {m : Nat} (h0 : 0 ≤ F m) (h1 : F m ≤ S) : 0 ≤ purF F S m ∧ purF F S m ≤ 1000 := by
  refine ⟨Int.ediv_nonneg (by omega) (by omega), ?_⟩
  have : F m * 1000 / S ≤ S * 1000 / S := Int.ediv_le_ediv hS (by omega)
  rw [Int.mul_ediv_cancel_left _ (by omega : S ≠ 0)] at this
  exact this
theorem purF_mono {F : Nat → Int} {S : Int} (hS : 0 < S) {m k : Nat} (h : F m ≤ F k) : purF F S m ≤ purF F S k := Int.ediv_le_ediv hS (by omega)
theorem sumF_ge {F : Nat → Int} : ∀ {n m : Nat}, (∀ j, j < n → 0 ≤ F j) → m < n → F m ≤ sumF F n
  | n + 1, m, h, hm => by
    simp only [sumF]
    have h0 : 0 ≤ sumF F n := by
      clear hm
      have : ∀ k, k ≤ n → 0 ≤ sumF F k := by
        intro k
        induction k with
        | zero => intro _; exact Int.le_refl _
        | succ k ih => intro hk; simp only [sumF]; have := ih (by omega); have := h k (by omega); omega
      exact this n (Nat.le_refl _)
    by_cases hmn : m = n
    · subst hmn; omega
    · have := sumF_ge (F := F) (n := n) (m := m) (fun j hj => h j (by omega)) (by omega)
      have := h n (by omega)
      omega
theorem purF_end {F : Nat → Int} {S : Int} (hS : 0 < S) {n : Nat} (h1 : 1 ≤ n) (e : sumF F n = S) : sumF (purF F S) n ≤ 1000 ∧ 1000 - (n : Int) < sumF (purF F S) n := by
  obtain ⟨h2, h3⟩ := purF_sum F hS n
  rw [e] at h2 h3
  generalize sumF (purF F S) n = q at h2 h3 ⊢
  constructor
  · refine Int.not_lt.1 fun h => ?_
    have : S * 1001 ≤ S * q := Int.mul_le_mul_of_nonneg_left (by omega) (by omega)
    omega
  · refine Int.not_le.1 fun h => ?_
    have h4 : S * q ≤ S * (1000 - n) := Int.mul_le_mul_of_nonneg_left h (by omega)
    rw [Int.mul_sub] at h4
    have e2 : (n : Int) * (S - 1) = S * n - n := by rw [Int.mul_sub, Int.mul_comm]; simp
    rw [e2] at h3
    omega

theorem sumF_allzero {F : Nat → Int} : ∀ {n : Nat}, (∀ j, j < n → F j = 0) → sumF F n = 0
  | 0, _ => rfl
  | n + 1, h => by simp only [sumF]; rw [sumF_allzero fun j hj => h j (by omega), h n (by omega)]; rfl

/-- Where Likely fails, Purity fails too. -/
theorem lik_bad {l : List (List Int)} {p : List Int} {cls : Int} (h : ¬ (likL l p cls).2 = 0) : (likL l p cls).1 = 0 ∧ ¬ (purM l p cls 0).2 = 0 := by
  by_cases hE : expE l p cls = 0
  · obtain ⟨C, rfl, hok⟩ := expE_ok hE
    obtain ⟨_, p1, p16⟩ := hok.len
    rw [likL_ok hok] at h ⊢
    rw [purM_ok hok]
    by_cases hz : ef l p C (argM (ef l p C) p.length) = 0
    · rw [if_pos hz] at h ⊢
      refine ⟨rfl, ?_⟩
      have hs : sumF (ef l p C) p.length = 0 := sumF_allzero fun j hj => by
        have h1 := argM_max (ef l p C) hj
        have h2 := (hok.ef hj).1
        omega
      rw [if_neg (by omega), if_pos hs]
      decide
    · rw [if_neg hz] at h
      exact absurd rfl h
  · rw [likL_bad hE, purM_bad hE]
    exact ⟨rfl, hE⟩
structure LikOk (l : List (List Int)) (p : List Int) (C K : Nat) (S : Int) : Prop where
  ok : ExpOk l p C
  kp : K < p.length
  best : ∀ j, j < p.length → ef l p C j ≤ ef l p C K
  sum : sumF (ef l p C) p.length = S
  pos : 0 < S
theorem lik_good {l : List (List Int)} {p : List Int} {cls : Int} (h : (likL l p cls).2 = 0) : ∃ C K : Nat, ∃ S, cls = C ∧ likL l p cls = ((K : Int), 0) ∧ LikOk l p C K S := by
  by_cases hE : expE l p cls = 0
  · obtain ⟨C, rfl, hok⟩ := expE_ok hE
    obtain ⟨_, p1, p16⟩ := hok.len
    rw [likL_ok hok] at h ⊢
    by_cases hz : ef l p C (argM (ef l p C) p.length) = 0
    · rw [if_pos hz] at h; exact absurd h (by decide)
    · rw [if_neg hz]
      have hk := argM_le (ef l p C) p.length p1
      have h2 := (hok.ef hk).1
      have h3 := sumF_ge (F := ef l p C) (fun j hj => (hok.ef hj).1) hk
      exact ⟨C, _, _, rfl, rfl, hok, hk, fun j hj => argM_max _ hj, rfl, by omega⟩
  · rw [likL_bad hE] at h; exact absurd h hE
theorem LikOk.pur {l : List (List Int)} {p : List Int} {C K : Nat} {S : Int} (h : LikOk l p C K S) {m : Nat} (hm : m < p.length) : purM l p C m = (purF (ef l p C) S m, 0) := by
  have hp := h.pos
  rw [purM_ok h.ok, if_neg (by omega), if_neg (by rw [h.sum]; omega), h.sum, Int.toNat_natCast]
  rfl

set_option maxRecDepth 100000 in
set_option maxHeartbeats 1600000 in
theorem camPure_fin (a : Option Addr) (c : Nat) (l : List (List Int)) {w : World} (hx : Mixes Any w a l) (_ : l.length ≤ c) (_ : ∀ k y, y ∈ rx l k → I64 y) (a2 : Option Addr) (c2 : Nat) (p : List Int) (hp : Ints Any w a2 p) (_ : p.length ≤ c2) (_ : ∀ x ∈ p, I64 x) (cls : Int) (_ : I64 cls) (_ : World) :
    Calls Try.prog 7 #[.agg #[.slice a l.length c], .slice a2 p.length c2, .int .i64 cls] w fun e w' => e = .returned (.bool true) ∧ Mod NoBlock w w' := by
  have m0 := (Mod.refl NoBlock w).alloc (.cells #[.slice a l.length c] 24)
  have HX := Lib.hid (hx.frame m0)
  have HP := Lib.hid (hp.frame m0)
  have M := Lib.hid m0
  have hB := cell_new w #[.slice a l.length c] 24 0 _ rfl
  have hlp := hp.1
  unfold maxLen at hlp
  clear hx hp m0
  go_enter Try.func7, Try.ntmps7
  go_wp2_with fail
  generalize w.alloc (.cells #[.slice a l.length c] 24) = w0 at HX HP M hB ⊢
  refine (great_some _ _ _ _ _ HX.out).mono ?_
  rintro e w1 ⟨b, rfl, m1⟩
  replace M := Lib.hid (M.out.trans m1); replace HX := Lib.hid (HX.out.frame m1); replace HP := Lib.hid (HP.out.frame m1); replace hB := m1.cell hB id; clear m1
  cases b
  · by_cases h30 : 30 < (p.length : Int)
    · clear hB HX HP
      go_wp2_with fail
      refine (awakeC_any _).mono ?_; rintro e w9 ⟨rfl, m⟩; have M := Lib.hid (M.out.trans m); clear m
      go_wp2
      go_ret
      exact ⟨rfl, M.out⟩
    · by_cases hg : (likL l p cls).2 = 0
      · obtain ⟨C, K, S, rfl, hL, hok⟩ := lik_good hg
        have OK := Lib.hid hok
        have hS := hok.pos
        have hK := hok.kp
        obtain ⟨-, p1, p16⟩ := hok.ok.len
        have hpk := purF_le hS (hok.ok.ef hK).1 (by rw [← hok.sum]; exact sumF_ge (fun j hj => (hok.ok.ef hj).1) hK)
        have HL := Lib.hid hL
        have HPK := Lib.hid (hok.pur hK)
        have Hend := Lib.hid (purF_end hS p1 hok.sum)
        have Hm := Lib.hid (show ∀ m, m < p.length → purM l p C m = (purF (ef l p C) S m, 0) ∧ 0 ≤ purF (ef l p C) S m ∧ purF (ef l p C) S m ≤ purF (ef l p C) S K ∧ purF (ef l p C) S m ≤ 1000 from fun m hm => by
          have h1 := purF_le hS (hok.ok.ef hm).1 (by rw [← hok.sum]; exact sumF_ge (fun j hj => (hok.ok.ef hj).1) hm)
          exact ⟨hok.pur hm, h1.1, purF_mono hS (hok.best m hm), h1.2⟩)
        clear hg hL hok
        go_wp2_with fail
        refine (likely_any _ _ _ _ _ _ _ _ _ _ HX.out HP.out).mono ?_
        rw [HL.out]
        rintro e w2 ⟨rfl, m1⟩
        replace M := Lib.hid (M.out.trans m1); replace HX := Lib.hid (HX.out.frame m1); replace HP := Lib.hid (HP.out.frame m1); replace hB := m1.cell hB id; clear m1
        go_wp2_with fail
        refine (purity_any _ _ _ _ _ _ _ _ _ _ _ HX.out HP.out).mono ?_
        rw [HPK.out]
        rintro e w3 ⟨rfl, m1⟩
        replace M := Lib.hid (M.out.trans m1); replace HX := Lib.hid (HX.out.frame m1); replace HP := Lib.hid (HP.out.frame m1); replace hB := m1.cell hB id; clear m1
        obtain ⟨F, hF⟩ : ∃ F, purF (ef l p C) S = F := ⟨_, rfl⟩
        rw [hF] at Hend Hm hpk ⊢
        obtain ⟨most, hmost⟩ : ∃ most, F K = most := ⟨_, rfl⟩
        rw [hmost] at Hm hpk ⊢
        have HB := Lib.hid hB
        clear hF HL HPK hB
        go_wp2_with fail
        go_loopw [13, 14, 15, 16] (fun s i u v wr => ∃ k : Nat, k ≤ p.length ∧ i = .int .i64 k ∧ s = .int .i64 (sumF F k) ∧ 0 ≤ sumF F k ∧ sumF F k ≤ 1000 * (k : Int) ∧ Mod NoBlock w3 wr) (fun _ i _ _ _ => p.length - (intOf i).toNat)
        case atStart => exact ⟨0, by omega, rfl, rfl, Int.le_refl _, by simp [sumF], Mod.refl _ _⟩
        case round =>
          obtain ⟨k, hk, rfl, rfl, s0, s1, hm⟩ := hrel
          have hB := hm.cell HB.out id
          have Mr := Lib.hid hm
          clear hm
          by_cases hlt : k < p.length
          · obtain ⟨g1, g2, g3, g4⟩ := Hm.out k hlt
            have HG := Lib.hid g1
            have Hs := Lib.hid (show sumF F (k + 1) = sumF F k + F k from rfl)
            generalize sumF F k = s at s0 s1 Hs
            generalize F k = x at g2 g3 g4 HG Hs
            clear g1
            go_wp2_with fail
            refine (purity_any _ _ _ _ _ _ _ _ _ _ _ (HX.out.frame Mr.out) (HP.out.frame Mr.out)).mono ?_
            rw [HG.out]
            rintro e w4 ⟨rfl, m1⟩
            replace Mr := Lib.hid (Mr.out.trans m1)
            clear m1 hB
            have q1 : ¬ x < 0 := by omega
            have q2 : ¬ most < x := by omega
            go_wp2
            exact ⟨⟨k + 1, by omega, by go_num, by rw [Hs.out], by rw [Hs.out]; omega, by rw [Hs.out]; omega, Mr.out⟩, by simp [intOf]; omega⟩
          · have hkp : k = p.length := by omega
            have he := Hend.out
            rw [← hkp] at he
            obtain ⟨e1, e2⟩ := he
            replace M := Lib.hid (M.out.trans Mr.out)
            clear hB HX HP HB Mr Hm Hend
            rw [hkp] at *
            generalize sumF F p.length = s at s0 s1 e1 e2 ⊢
            have d1 : decide (s ≤ 1000) = true := decide_eq_true e1
            have d2 : decide (1000 - (p.length : Int) < s) = true := decide_eq_true e2
            go_wp2_with fail
            refine (awakeC_any _).mono ?_; rintro e w9 ⟨rfl, m⟩; have M := Lib.hid (M.out.trans m); clear m
            go_wp2
            go_ret
            exact ⟨rfl, M.out⟩
      · obtain ⟨h1, h2⟩ := lik_bad hg
        obtain ⟨L, hL⟩ : ∃ L, likL l p cls = L := ⟨_, rfl⟩
        obtain ⟨R, hR⟩ : ∃ R, purM l p cls 0 = R := ⟨_, rfl⟩
        rw [hL] at hg h1
        rw [hR] at h2
        have HL := Lib.hid hL
        have HR := Lib.hid hR
        obtain ⟨L1, L2⟩ := L
        obtain ⟨R1, R2⟩ := R
        clear hL hR
        have hne : (L2 != 0) = true := by simpa using hg
        have hne2 : (R2 != 0) = true := by simpa using h2
        obtain rfl : L1 = 0 := h1
        clear hg h2
        go_wp2_with fail
        refine (likely_any _ _ _ _ _ _ _ _ _ _ HX.out HP.out).mono ?_
        rw [HL.out]
        rintro e w2 ⟨rfl, m1⟩
        replace M := Lib.hid (M.out.trans m1); replace HX := Lib.hid (HX.out.frame m1); replace HP := Lib.hid (HP.out.frame m1); replace hB := m1.cell hB id; clear m1
        go_wp2_with fail
        refine (purity_any _ _ _ _ _ _ _ _ _ _ _ HX.out HP.out).mono ?_
        rw [HR.out]
        rintro e w3 ⟨rfl, m1⟩
        replace M := Lib.hid (M.out.trans m1); clear m1 hB HX HP
        go_wp2_with fail
        refine (awakeC_any _).mono ?_; rintro e w9 ⟨rfl, m⟩; have M := Lib.hid (M.out.trans m); clear m
        go_wp2
        go_ret
        exact ⟨rfl, M.out⟩
  · clear hB HX HP
    go_wp2_with fail
    refine (awakeC_any _).mono ?_; rintro e w9 ⟨rfl, m⟩; have M := Lib.hid (M.out.trans m); clear m
    go_wp2
    go_ret
    exact ⟨rfl, M.out⟩

end Go.Proofs.Ytgoccfjmghhaoaa
