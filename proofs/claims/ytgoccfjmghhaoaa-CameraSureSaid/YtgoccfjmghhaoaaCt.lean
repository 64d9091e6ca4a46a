/-
  camera: Likely, Purity; slices.Max, slices.Index.
-/
import Derived.Test.YtgoccfjmghhaoaaCs
set_option linter.unusedVariables false
set_option linter.unusedSimpArgs false
namespace Go.Proofs.Ytgoccfjmghhaoaa
open Go.RowKit

/-- The first of k numbers that is largest. -/
def argM (f : Nat → Int) : Nat → Nat
  | 0 => 0
  | k + 1 => if f (argM f k) < f k then k else argM f k
theorem argM_le (f : Nat → Int) : ∀ k, 1 ≤ k → argM f k < k
  | k + 1, _ => by
    unfold argM
    split
    · omega
    · by_cases h : 1 ≤ k
      · have := argM_le f k h; omega
      · obtain rfl : k = 0 := by omega
        exact Nat.zero_lt_one
theorem argM_max (f : Nat → Int) : ∀ {k j}, j < k → f j ≤ f (argM f k)
  | k + 1, j, h => by
    unfold argM
    by_cases hj : j = k
    · subst hj; split <;> omega
    · have := argM_max f (k := k) (j := j) (by omega)
      split <;> omega
theorem argM_first (f : Nat → Int) : ∀ {k j}, j < argM f k → f j < f (argM f k)
  | 0, j, h => absurd h (by simp [argM])
  | k + 1, j, h => by
    unfold argM at h ⊢
    split at h
    · next hc =>
      rw [if_pos hc]
      by_cases hj : j < k
      · have := argM_max f hj; omega
      · omega
    · next hc =>
      rw [if_neg hc]
      exact argM_first f h
theorem argM_up {f : Nat → Int} {k : Nat} (h : f (argM f k) < f k) : argM f (k + 1) = k := if_pos h
theorem argM_not {f : Nat → Int} {k : Nat} (h : ¬ f (argM f k) < f k) : argM f (k + 1) = argM f k := if_neg h

set_option maxHeartbeats 800000 in
theorem max_any (g n c : Nat) (F : Nat → Int) (w : World) (hc : ∀ k, k < n → w.cell? ⟨g, k, none⟩ = some (.int .i64 (F k))) (h1 : 1 ≤ n) (h16 : n ≤ 16) :
    Calls Try.prog 36 #[.slice (some ⟨g, 0, none⟩) n c] w fun e w' => e = .returned (.int .i64 (F (argM F n))) ∧ w = w' := by
  have Hc := Lib.hid hc
  have n1 : (1 : Int) ≤ n := by omega
  have n16 : (n : Int) ≤ 16 := by omega
  have c0 := hc 0 h1
  clear hc
  go_enter Try.func36, Try.ntmps36
  go_wp2
  go_loop [3, 4] (fun m i => ∃ k : Nat, k < n ∧ i = .int .i64 ((k : Int) + 1) ∧ m = .int .i64 (F (argM F (k + 1)))) (fun _ i => n - (intOf i).toNat)
  case atStart => exact ⟨0, by omega, rfl, by simp [argM]⟩
  case round =>
    obtain ⟨k, hk, rfl, rfl⟩ := hrel
    by_cases hlt : k + 1 < n
    · have c1 := Hc.out (k + 1) hlt
      have k1 : (k : Int) + 1 < n := by omega
      have Hup := Lib.hid (fun h => argM_up (f := F) (k := k + 1) h)
      have Hnot := Lib.hid (fun h => argM_not (f := F) (k := k + 1) h)
      clear c0
      obtain ⟨M, hM⟩ : ∃ M, argM F (k + 1) = M := ⟨_, rfl⟩
      rw [hM] at Hup Hnot ⊢
      obtain ⟨y, hy⟩ : ∃ y, F M = y := ⟨_, rfl⟩
      obtain ⟨x, hx⟩ : ∃ x, F (k + 1) = x := ⟨_, rfl⟩
      rw [hy, hx] at Hup
      rw [hy, hx] at Hnot
      rw [hx] at c1
      rw [hy]
      go_wp2
      refine ⟨⟨k + 1, hlt, by go_num, ?_⟩, by simp [intOf]; omega⟩
      by_cases h : y < x
      · rw [if_pos h, Hup.out h, hx]
      · rw [if_neg h, Hnot.out h, hy]
    · obtain rfl : n = k + 1 := by omega
      go_wp2
      go_ret
      exact ⟨rfl, rfl⟩

set_option maxHeartbeats 800000 in
theorem index_any (g n c : Nat) (F : Nat → Int) (M : Nat) (w : World) (hc : ∀ k, k < n → w.cell? ⟨g, k, none⟩ = some (.int .i64 (F k))) (h16 : n ≤ 16) (hM : M < n) (hfirst : ∀ j, j < M → F j < F M) :
    Calls Try.prog 37 #[.slice (some ⟨g, 0, none⟩) n c, .int .i64 (F M)] w fun e w' => e = .returned (.int .i64 M) ∧ w = w' := by
  have Hc := Lib.hid hc
  have Hfirst := Lib.hid hfirst
  have n16 : (n : Int) ≤ 16 := by omega
  clear hc hfirst
  go_enter Try.func37, Try.ntmps37
  go_wp2
  go_loop [5, 8] (fun u i => ∃ k : Nat, k ≤ M ∧ i = .int .i64 k) (fun _ i => n - (intOf i).toNat)
  case atStart => exact ⟨0, by omega, rfl⟩
  case round =>
    obtain ⟨k, hk, rfl⟩ := hrel
    have c1 := Hc.out k (by omega)
    have kn : (k : Int) < n := by omega
    by_cases hlt : k < M
    · have hne := Hfirst.out k hlt
      obtain ⟨x, hx⟩ : ∃ x, F k = x := ⟨_, rfl⟩
      obtain ⟨y, hy⟩ : ∃ y, F M = y := ⟨_, rfl⟩
      rw [hx] at c1
      rw [hx, hy] at hne
      have h1 : ¬ y = x := by omega
      rw [hy]
      go_wp2
      exact ⟨⟨k + 1, by omega, by go_num⟩, by simp [intOf]; omega⟩
    · obtain rfl : k = M := by omega
      go_wp2
      go_ret
      exact ⟨rfl, rfl⟩

def likL (l : List (List Int)) (p : List Int) (cls : Int) : Int × Int :=
  if expE l p cls ≠ 0 then (0, expE l p cls) else if ef l p cls.toNat (argM (ef l p cls.toNat) p.length) = 0 then (0, 10) else (((argM (ef l p cls.toNat) p.length : Nat) : Int), 0)
def purM (l : List (List Int)) (p : List Int) (cls m : Int) : Int × Int :=
  if expE l p cls ≠ 0 then (0, expE l p cls) else if m < 0 ∨ (p.length : Int) ≤ m then (0, 1) else if sumF (ef l p cls.toNat) p.length = 0 then (0, 10) else (ef l p cls.toNat m.toNat * 1000 / sumF (ef l p cls.toNat) p.length, 0)
theorem likL_bad {l : List (List Int)} {p : List Int} {cls : Int} (h : ¬ expE l p cls = 0) : likL l p cls = (0, expE l p cls) := if_pos h
theorem likL_ok {l : List (List Int)} {p : List Int} {C : Nat} (h : ExpOk l p C) : likL l p C = if ef l p C (argM (ef l p C) p.length) = 0 then (0, 10) else (((argM (ef l p C) p.length : Nat) : Int), 0) := by
  unfold likL; rw [if_neg (by rw [h.e]; decide), Int.toNat_natCast]
theorem purM_bad {l : List (List Int)} {p : List Int} {cls m : Int} (h : ¬ expE l p cls = 0) : purM l p cls m = (0, expE l p cls) := if_pos h
theorem purM_ok {l : List (List Int)} {p : List Int} {C : Nat} {m : Int} (h : ExpOk l p C) : purM l p C m = if m < 0 ∨ (p.length : Int) ≤ m then (0, 1) else if sumF (ef l p C) p.length = 0 then (0, 10) else (ef l p C m.toNat * 1000 / sumF (ef l p C) p.length, 0) := by
  unfold purM; rw [if_neg (by rw [h.e]; decide), Int.toNat_natCast]
theorem expOk_sum {l : List (List Int)} {p : List Int} {C : Nat} (h : ExpOk l p C) : ∀ k, k ≤ p.length → 0 ≤ sumF (ef l p C) k ∧ sumF (ef l p C) k ≤ 1073741824000 * k
  | 0, _ => by simp [sumF]
  | k + 1, hk => by
    have h1 := expOk_sum h k (by omega)
    have h2 := h.ef (m := k) (by omega)
    simp only [sumF]
    omega

set_option maxRecDepth 100000 in
set_option maxHeartbeats 1600000 in
theorem likely_any (a : Option Addr) (c : Nat) (l : List (List Int)) (a2 : Option Addr) (c2 : Nat) (p : List Int) (cls : Int) (D D2 : Nat → Prop) (w : World) (hx : Mixes D w a l) (hp : Ints D2 w a2 p) :
    Calls Try.prog 20 #[.agg #[.slice a l.length c], .slice a2 p.length c2, .int .i64 cls] w fun e w' => e = .returned (.tuple #[.int .i64 (likL l p cls).1, .int .i64 (likL l p cls).2]) ∧ Mod NoBlock w w' := by
  have m0 := (Mod.refl NoBlock w).alloc (.cells #[.slice a l.length c] 24)
  have HX := Lib.hid (hx.frame m0)
  have HP := Lib.hid (hp.frame m0)
  have M := Lib.hid m0
  clear hx hp m0
  by_cases h : expE l p cls = 0
  · obtain ⟨C, rfl, hok⟩ := expE_ok h
    have OK := Lib.hid hok
    obtain ⟨-, p1, p16⟩ := hok.len
    have Hl := Lib.hid (likL_ok hok)
    obtain ⟨K, hK⟩ : ∃ K, argM (ef l p C) p.length = K := ⟨_, rfl⟩
    have hKl : K < p.length := by rw [← hK]; exact argM_le _ _ p1
    have HKf := Lib.hid (show ∀ j, j < K → ef l p C j < ef l p C K from fun j hj => by rw [← hK] at hj ⊢; exact argM_first _ hj)
    rw [hK] at Hl
    have HK := Lib.hid hK
    clear h hok hK
    by_cases hz : ef l p C K = 0
    · rw [if_pos hz] at Hl
      rw [Hl.out]
      have Hz := Lib.hid hz
      clear hz
      go_enter Try.func20, Try.ntmps20
      go_wp2_with fail
      generalize w.alloc (.cells #[.slice a l.length c] 24) = w0 at HX HP M ⊢
      refine (exp_ok _ _ _ _ _ _ _ _ _ _ HX.out HP.out OK.out).mono ?_
      rintro e w1 ⟨g, rfl, m1, hrow⟩
      replace M := Lib.hid (M.out.trans m1)
      have Hrow := Lib.hid hrow
      clear m1 hrow
      go_wp2_with fail
      refine (max_any g p.length p.length (ef l p C) _ (fun k hk => Hrow.out.cell hk) p1 p16).mono ?_
      rw [HK.out, Hz.out]
      rintro e w2 ⟨rfl, rfl⟩
      go_wp2
      go_ret2
      exact ⟨rfl, M.out⟩
    · rw [if_neg hz] at Hl
      rw [Hl.out]
      have hne : (ef l p C K == 0) = false := by simpa using hz
      clear hz
      go_enter Try.func20, Try.ntmps20
      go_wp2_with fail
      generalize w.alloc (.cells #[.slice a l.length c] 24) = w0 at HX HP M ⊢
      refine (exp_ok _ _ _ _ _ _ _ _ _ _ HX.out HP.out OK.out).mono ?_
      rintro e w1 ⟨g, rfl, m1, hrow⟩
      replace M := Lib.hid (M.out.trans m1)
      have Hrow := Lib.hid hrow
      clear m1 hrow
      go_wp2_with fail
      refine (max_any g p.length p.length (ef l p C) _ (fun k hk => Hrow.out.cell hk) p1 p16).mono ?_
      rw [HK.out]
      rintro e w2 ⟨rfl, rfl⟩
      go_wp2_with fail
      refine (index_any g p.length p.length (ef l p C) K _ (fun k hk => Hrow.out.cell hk) p16 hKl HKf.out).mono ?_
      rintro e w2 ⟨rfl, rfl⟩
      go_wp2
      go_ret2
      exact ⟨rfl, M.out⟩
  · rw [likL_bad h]
    have Hb := Lib.hid h
    have hne : (expE l p cls != 0) = true := by simpa using h
    clear h
    go_enter Try.func20, Try.ntmps20
    go_wp2_with fail
    generalize w.alloc (.cells #[.slice a l.length c] 24) = w0 at HX HP M ⊢
    refine (exp_bad _ _ _ _ _ _ _ _ _ _ HX.out HP.out Hb.out).mono ?_
    rintro e w1 ⟨rfl, m1⟩
    replace M := Lib.hid (M.out.trans m1)
    clear m1
    go_wp2
    go_ret2
    exact ⟨rfl, M.out⟩

set_option maxRecDepth 100000 in
set_option maxHeartbeats 1600000 in
theorem purity_any (a : Option Addr) (c : Nat) (l : List (List Int)) (a2 : Option Addr) (c2 : Nat) (p : List Int) (cls m : Int) (D D2 : Nat → Prop) (w : World) (hx : Mixes D w a l) (hp : Ints D2 w a2 p) :
    Calls Try.prog 22 #[.agg #[.slice a l.length c], .slice a2 p.length c2, .int .i64 cls, .int .i64 m] w fun e w' => e = .returned (.tuple #[.int .i64 (purM l p cls m).1, .int .i64 (purM l p cls m).2]) ∧ Mod NoBlock w w' := by
  have m0 := (Mod.refl NoBlock w).alloc (.cells #[.slice a l.length c] 24)
  have HX := Lib.hid (hx.frame m0)
  have HP := Lib.hid (hp.frame m0)
  have M := Lib.hid m0
  clear hx hp m0
  by_cases h : expE l p cls = 0
  · obtain ⟨C, rfl, hok⟩ := expE_ok h
    have OK := Lib.hid hok
    obtain ⟨-, p1, p16⟩ := hok.len
    have Hl := Lib.hid (purM_ok (m := m) hok)
    have n1 : (1 : Int) ≤ p.length := by omega
    have n16 : (p.length : Int) ≤ 16 := by omega
    clear h hok
    by_cases hm : m < 0 ∨ (¬ m < 0 ∧ (p.length : Int) ≤ m)
    · rw [if_pos (by omega)] at Hl
      rw [Hl.out]
      rcases hm with q | ⟨q, q2⟩
      all_goals
        go_enter Try.func22, Try.ntmps22
        go_wp2_with fail
        generalize w.alloc (.cells #[.slice a l.length c] 24) = w0 at HX HP M ⊢
        refine (exp_ok _ _ _ _ _ _ _ _ _ _ HX.out HP.out OK.out).mono ?_
        rintro e w1 ⟨g, rfl, m1, hrow⟩
        replace M := Lib.hid (M.out.trans m1)
        clear m1 hrow
        go_wp2
        go_ret2
        exact ⟨rfl, M.out⟩
    · rw [if_neg (by omega)] at Hl
      obtain ⟨K, rfl⟩ : ∃ K : Nat, m = K := ⟨m.toNat, by omega⟩
      rw [Int.toNat_natCast] at Hl
      have hK : K < p.length := by omega
      have kI : (K : Int) < p.length := by omega
      have k0 : (0 : Int) ≤ K := by omega
      have HS := Lib.hid (fun k hk => expOk_sum OK.out k hk)
      obtain ⟨F, hF⟩ : ∃ F, ef l p C = F := ⟨_, rfl⟩
      rw [hF] at Hl
      have HF := Lib.hid hF
      clear hm hF
      go_enter Try.func22, Try.ntmps22
      go_wp2_with fail
      generalize w.alloc (.cells #[.slice a l.length c] 24) = w0 at HX HP M ⊢
      refine (exp_ok _ _ _ _ _ _ _ _ _ _ HX.out HP.out OK.out).mono ?_
      rw [HF.out]
      rintro e w1 ⟨g, rfl, m1, hrow⟩
      replace M := Lib.hid (M.out.trans m1)
      have Hrow := Lib.hid hrow
      clear m1 hrow
      have HS2 := Lib.hid (show ∀ k, k ≤ p.length → 0 ≤ sumF F k ∧ sumF F k ≤ 1073741824000 * k from fun k hk => by have := HS.out k hk; rw [HF.out] at this; exact this)
      have HE2 := Lib.hid (show ∀ k, k < p.length → 0 ≤ F k ∧ F k ≤ 1073741824000 from fun k hk => by have := OK.out.ef (m := k) hk; rw [HF.out] at this; exact this)
      clear HS
      have HlA := Lib.hid (fun h : sumF F p.length = 0 => Hl.out.trans (if_pos h))
      have HlB := Lib.hid (fun h : ¬ sumF F p.length = 0 => Hl.out.trans (if_neg h))
      clear Hl
      go_wp2
      go_loop [12, 14, 35] (fun s u i => ∃ k : Nat, k ≤ p.length ∧ i = .int .i64 k ∧ s = .int .i64 (sumF F k)) (fun _ _ i => p.length - (intOf i).toNat)
      case atStart => exact ⟨0, by omega, rfl, rfl⟩
      case round =>
        obtain ⟨k, hk, rfl, rfl⟩ := hrel
        by_cases hlt : k < p.length
        · have c1 := Hrow.out.cell hlt
          obtain ⟨s0, s1⟩ := HS2.out k hk
          obtain ⟨f0, f1⟩ := HE2.out k hlt
          have Hk := Lib.hid (show sumF F (k + 1) = sumF F k + F k from rfl)
          generalize sumF F k = s at s0 s1 Hk
          generalize F k = x at c1 f0 f1 Hk
          go_wp2
          exact ⟨⟨k + 1, by omega, by go_num, by rw [Hk.out]⟩, by simp [intOf]; omega⟩
        · have hkp : k = p.length := by omega
          have c1 := Hrow.out.cell hK
          obtain ⟨s0, s1⟩ := HS2.out k hk
          obtain ⟨f0, f1⟩ := HE2.out K hK
          rw [hkp] at s0 s1 ⊢
          generalize sumF F p.length = s at s0 s1 HlA HlB ⊢
          generalize F K = x at c1 f0 f1 HlB
          by_cases hz : s = 0
          · have HA := Lib.hid (HlA.out hz)
            clear HlA HlB
            subst hz
            go_wp2
            go_ret2
            rw [HA.out]
            exact ⟨rfl, M.out⟩
          · have HB := Lib.hid (HlB.out hz)
            clear HlA HlB
            have hs : (s == 0) = false := by simpa using hz
            have hs2 : 0 < s := by omega
            have eq1 : (x * 1000).tdiv s = x * 1000 / s := Int.tdiv_eq_ediv_of_nonneg (by omega)
            have hd0 : 0 ≤ x * 1000 / s := Int.ediv_nonneg (by omega) (by omega)
            have hd1 : x * 1000 / s ≤ x * 1000 := Int.ediv_le_self _ (by omega)
            have hd2 : x * 1000 / s ≤ 1073741824000000 := by omega
            clear hd1
            generalize x * 1000 / s = y at eq1 hd0 hd2 HB
            go_wp2
            go_ret2
            rw [HB.out]
            exact ⟨rfl, M.out⟩
  · rw [purM_bad h]
    have Hb := Lib.hid h
    have hne : (expE l p cls != 0) = true := by simpa using h
    clear h
    go_enter Try.func22, Try.ntmps22
    go_wp2_with fail
    generalize w.alloc (.cells #[.slice a l.length c] 24) = w0 at HX HP M ⊢
    refine (exp_bad _ _ _ _ _ _ _ _ _ _ HX.out HP.out Hb.out).mono ?_
    rintro e w1 ⟨rfl, m1⟩
    replace M := Lib.hid (M.out.trans m1)
    clear m1
    go_wp2
    go_ret2
    exact ⟨rfl, M.out⟩

end Go.Proofs.Ytgoccfjmghhaoaa
