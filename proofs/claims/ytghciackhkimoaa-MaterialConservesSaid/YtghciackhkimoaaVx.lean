/-
  The laws MaterialBack, MaterialPurities, MaterialConserves walked.
-/
import Derived.Test.YtghciackhkimoaaVu
import Derived.Test.YtghciackhkimoaaVw
set_option linter.unusedVariables false
set_option linter.unusedSimpArgs false
namespace Go.Proofs.Ytghciackhkimoaa
open Go.RowKit

set_option maxRecDepth 100000 in
set_option maxHeartbeats 1600000 in
theorem materialBack_fin (a : Option Addr) (c : Nat) (xs : List Int) {w : World} (hx : Ints Any w a xs) (_ : xs.length ≤ c) (_ : ∀ x ∈ xs, I64 x) (a2 : Option Addr) (c2 : Nat) (ys : List Int) (hy : Ints Any w a2 ys) (_ : ys.length ≤ c2) (_ : ∀ x ∈ ys, I64 x) (_ : World) :
    Calls Try.prog 9 #[.slice a xs.length c, .slice a2 ys.length c2] w fun e w' => e = .returned (.bool true) ∧ Mod NoBlock w w' := by
  have M := Lib.hid (Mod.refl NoBlock w)
  have HX := Lib.hid hx
  have HY := Lib.hid hy
  have Hlx := Lib.hid hx.1
  have Hly := Lib.hid hy.1
  clear hx hy
  by_cases h1 : 40 < xs.length
  · have H1 := Lib.hid (decide_eq_true h1)
    clear h1
    go_enter Try.func9, Try.ntmps9
    go_wp2_with (first
      | (go_at_call 14; refine (great_any _ _ _ _ Hlx.out).mono ?_; rintro e w1 ⟨rfl, rfl⟩; rw [H1.out])
      | (go_at_call 11; refine (awake_any _).mono ?_; rintro e w5 ⟨rfl, m⟩; have M := Lib.hid (M.out.trans m); clear m))
    go_ret
    exact ⟨rfl, M.out⟩
  by_cases h2 : 40 < ys.length
  · have H1 := Lib.hid (decide_eq_false h1)
    have H2 := Lib.hid (decide_eq_true h2)
    clear h1 h2
    go_enter Try.func9, Try.ntmps9
    go_wp2_with fail
    refine (great_any _ _ _ _ Hlx.out).mono ?_; rintro e w1 ⟨rfl, rfl⟩; rw [H1.out]
    go_wp2_with fail
    refine (great_any _ _ _ _ Hly.out).mono ?_; rintro e w1 ⟨rfl, rfl⟩; rw [H2.out]
    go_wp2_with fail
    refine (awake_any _).mono ?_; rintro e w5 ⟨rfl, m⟩; have M := Lib.hid (M.out.trans m); clear m
    go_wp2
    go_ret
    exact ⟨rfl, M.out⟩
  have H1 := Lib.hid (decide_eq_false h1)
  have H2 := Lib.hid (decide_eq_false h2)
  clear h1 h2
  by_cases he : (addL xs ys).2 = 0
  · obtain ⟨s, k1, k2, k3, k4, k5, k6, b1, b2, b3, b4⟩ := back_facts he
    have K1 := Lib.hid k1
    have K2 := Lib.hid k2
    have K3 := Lib.hid k3
    have K4 := Lib.hid k4
    have K5 := Lib.hid k5
    have K6 := Lib.hid k6
    clear he k1 k2 k3 k4 k5 k6
    go_enter Try.func9, Try.ntmps9
    go_wp2_with fail
    refine (great_any _ _ _ _ Hlx.out).mono ?_; rintro e w1 ⟨rfl, rfl⟩; rw [H1.out]
    go_wp2_with fail
    refine (great_any _ _ _ _ Hly.out).mono ?_; rintro e w1 ⟨rfl, rfl⟩; rw [H2.out]
    go_wp2_with fail
    refine (matAdd_any _ _ _ _ _ _ _ _ _ HX.out HY.out).mono ?_; rw [K1.out]; rintro e w1 ⟨d1, e1, rfl, m, hs⟩
    have M := Lib.hid (M.out.trans m); have HX := Lib.hid (HX.out.frame m); have HY := Lib.hid (HY.out.frame m); have HS := Lib.hid hs; clear m hs
    go_wp2_with fail
    refine (matAdd_any _ _ _ _ _ _ _ _ _ HY.out HX.out).mono ?_; rw [K2.out]; rintro e w2 ⟨d2, e2, rfl, m, hs⟩
    have M := Lib.hid (M.out.trans m); have HX := Lib.hid (HX.out.frame m); have HY := Lib.hid (HY.out.frame m); have HS := Lib.hid (HS.out.frame m); have HT := Lib.hid hs; clear m hs
    go_wp2_with fail
    refine (matSub_any _ _ _ _ _ _ _ _ _ HS.out HY.out).mono ?_; rw [K3.out]; rintro e w3 ⟨d3, e3, rfl, m, hs⟩
    have M := Lib.hid (M.out.trans m); have HX := Lib.hid (HX.out.frame m); have HY := Lib.hid (HY.out.frame m); have HS := Lib.hid (HS.out.frame m); have HT := Lib.hid (HT.out.frame m); have HD := Lib.hid hs; clear m hs
    go_wp2_with fail
    refine (matTotal_any _ _ _ _ _ HX.out).mono ?_; rw [K4.out]; rintro e w4 ⟨rfl, m⟩
    have M := Lib.hid (M.out.trans m); have HX := Lib.hid (HX.out.frame m); have HY := Lib.hid (HY.out.frame m); have HS := Lib.hid (HS.out.frame m); have HT := Lib.hid (HT.out.frame m); have HD := Lib.hid (HD.out.frame m); clear m
    go_wp2_with fail
    refine (matTotal_any _ _ _ _ _ HY.out).mono ?_; rw [K5.out]; rintro e w5 ⟨rfl, m⟩
    have M := Lib.hid (M.out.trans m); have HX := Lib.hid (HX.out.frame m); have HS := Lib.hid (HS.out.frame m); have HT := Lib.hid (HT.out.frame m); have HD := Lib.hid (HD.out.frame m); clear m HY
    go_wp2_with fail
    refine (matTotal_any _ _ _ _ _ HS.out).mono ?_; rw [K6.out]; rintro e w6 ⟨rfl, m⟩
    have M := Lib.hid (M.out.trans m); have HX := Lib.hid (HX.out.frame m); have HS := Lib.hid (HS.out.frame m); have HT := Lib.hid (HT.out.frame m); have HD := Lib.hid (HD.out.frame m); clear m
    go_wp2_with fail
    refine (rsame_self _ _ _ _ _ _ _ _ _ rfl HS.out HT.out).mono ?_; rintro e w7 ⟨rfl, m⟩
    have M := Lib.hid (M.out.trans m); have HX := Lib.hid (HX.out.frame m); have HD := Lib.hid (HD.out.frame m); clear m
    go_wp2_with fail
    refine (rsame_self _ _ _ _ _ _ _ _ _ rfl HD.out HX.out).mono ?_; rintro e w8 ⟨rfl, m⟩
    have M := Lib.hid (M.out.trans m); clear m
    go_wp2_with fail
    refine (awake_any _).mono ?_; rintro e w9 ⟨rfl, m⟩; have M := Lib.hid (M.out.trans m); clear m
    go_wp2
    go_ret
    exact ⟨rfl, M.out⟩
  · have E := Lib.hid (addL_err he)
    have hne : ((addL xs ys).2 != 0) = true := by simpa using he
    clear he
    go_enter Try.func9, Try.ntmps9
    go_wp2_with fail
    refine (great_any _ _ _ _ Hlx.out).mono ?_; rintro e w1 ⟨rfl, rfl⟩; rw [H1.out]
    go_wp2_with fail
    refine (great_any _ _ _ _ Hly.out).mono ?_; rintro e w1 ⟨rfl, rfl⟩; rw [H2.out]
    go_wp2_with fail
    refine (matAdd_any _ _ _ _ _ _ _ _ _ HX.out HY.out).mono ?_; rintro e w1 ⟨d1, e1, rfl, m, hs⟩
    have M := Lib.hid (M.out.trans m); clear m hs
    rw [E.out]
    go_wp2_with fail
    refine (awake_any _).mono ?_; rintro e w9 ⟨rfl, m⟩; have M := Lib.hid (M.out.trans m); clear m
    go_wp2
    go_ret
    exact ⟨rfl, M.out⟩

theorem purL_zero {xs : List Int} (h : ¬ ((totL xs).2 = 0 ∧ ¬ (totL xs).1 = 0)) : (purL xs 0).2 ≠ 0 := by
  by_cases hf : faultL xs = 0
  · rw [totL_ok hf] at h
    by_cases h2 : (0 : Int) < 0 ∨ (xs.length : Int) ≤ 0
    · rw [purL_range hf h2]; decide
    · have : xs.sum = 0 := by
        by_cases h0 : xs.sum = 0
        · exact h0
        · exact absurd ⟨rfl, h0⟩ h
      rw [purL_empty hf h2 this]; decide
  · rw [purL_bad hf]; exact hf

set_option maxRecDepth 100000 in
set_option maxHeartbeats 1600000 in
theorem materialPurities_fin (a : Option Addr) (c : Nat) (xs : List Int) {w : World} (hx : Ints Any w a xs) (_ : xs.length ≤ c) (_ : ∀ x ∈ xs, I64 x) (_ : World) :
    Calls Try.prog 10 #[.slice a xs.length c] w fun e w' => e = .returned (.bool true) ∧ Mod NoBlock w w' := by
  have M := Lib.hid (Mod.refl NoBlock w)
  have HX := Lib.hid hx
  have Hlx := Lib.hid hx.1
  clear hx
  by_cases h1 : 40 < xs.length
  · have H1 := Lib.hid (decide_eq_true h1)
    clear h1
    go_enter Try.func10, Try.ntmps10
    go_wp2_with fail
    refine (great_any _ _ _ _ Hlx.out).mono ?_; rintro e w1 ⟨rfl, rfl⟩; rw [H1.out]
    go_wp2_with fail
    refine (awake_any _).mono ?_; rintro e w5 ⟨rfl, m⟩; have M := Lib.hid (M.out.trans m); clear m
    go_wp2
    go_ret
    exact ⟨rfl, M.out⟩
  have H1 := Lib.hid (decide_eq_false h1)
  by_cases hg : (totL xs).2 = 0 ∧ ¬ (totL xs).1 = 0
  · have hf : faultL xs = 0 := by
      by_cases hf : faultL xs = 0
      · exact hf
      · rw [totL_bad hf] at hg; exact absurd hg.1 hf
    rw [totL_ok hf] at hg
    have hS0 : ¬ xs.sum = 0 := hg.2
    have K := Lib.hid (totL_ok hf)
    have Hp := Lib.hid (fun i h2 => purL_ok (i := i) hf h2 hS0)
    obtain ⟨s0, s1⟩ := sum_bound hf
    have hpos : 0 < xs.sum := by omega
    have Hnn := Lib.hid (mem_nonneg hf)
    have Hok := Lib.hid (ok_of_fault hf)
    have hlen1 : 1 ≤ xs.length := by
      cases xs with
      | nil => simp at hpos
      | cons => simp
    have hlx : xs.length ≤ 40 := by omega
    obtain ⟨S, hS⟩ : ∃ S, xs.sum = S := ⟨_, rfl⟩
    rw [hS] at K Hp s0 s1 hpos hS0
    have HS := Lib.hid hS
    have hS0' : (S == 0) = false := by rw [beq_eq_false_iff_ne]; exact hS0
    have Hpos := Lib.hid hpos
    clear h1 hg hf hS hS0 hpos
    go_enter Try.func10, Try.ntmps10
    go_wp2_with fail
    refine (great_any _ _ _ _ Hlx.out).mono ?_; rintro e w1 ⟨rfl, rfl⟩; rw [H1.out]
    go_wp2_with fail
    refine (matTotal_any _ _ _ _ _ HX.out).mono ?_; rw [K.out]; rintro e w1 ⟨rfl, m⟩
    have M := Lib.hid (M.out.trans m); clear m
    go_wp2
    go_loopw [7, 8, 9, 10] (fun s i u v wr => ∃ (k : Nat) (P : Int), k ≤ xs.length ∧ i = .int .i64 k ∧ s = .int .i64 P ∧ Mod NoBlock w wr ∧ 0 ≤ P ∧ P ≤ (k : Int) * 1000 ∧ P * S ≤ 1000 * (xs.take k).sum ∧ 1000 * (xs.take k).sum ≤ P * S + (k : Int) * (S - 1)) (fun _ i _ _ _ => xs.length - (intOf i).toNat)
    case atStart => exact ⟨0, 0, by omega, rfl, rfl, M.out, by omega, by omega, by simp, by simp⟩
    case round =>
      obtain ⟨k, P, hk, rfl, rfl, hm, p0, p1, hi1, hi2⟩ := hrel
      have Hm := Lib.hid hm
      have Hi1 := Lib.hid hi1
      have Hi2 := Lib.hid hi2
      clear hm hi1 hi2
      by_cases hlt : k < xs.length
      · have hxk := Hok.out.2 k hlt
        have htk := take_ix hlt
        have hle : ix xs k ≤ S := by
          have h1 := sum_take_le Hnn.out (k + 1)
          have h2 := sum_nonneg_of (l := xs.take k) fun x hx => Hnn.out x (List.mem_of_mem_take hx)
          rw [htk, List.sum_append, HS.out] at h1
          simp at h1
          omega
        obtain ⟨q0, q1, q2, q3⟩ := pur_step hxk.1 hle Hpos.out Hi1.out Hi2.out
        have hpk := Hp.out (k : Int) (by omega)
        have e2 : ((k : Int)).toNat = k := by simp
        rw [e2] at hpk
        have hts : (xs.take (k + 1)).sum = (xs.take k).sum + ix xs k := by rw [htk, List.sum_append]; simp
        rw [← hts] at q2 q3
        have Hpk := Lib.hid hpk
        have Q2 := Lib.hid q2
        have Q3 := Lib.hid q3
        generalize ix xs k * 1000 / S = p at q0 q1 Hpk Q2 Q3
        clear hxk htk hle hpk e2 hts q2 q3
        have pb : P ≤ 40000 := by omega
        go_wp2_with fail
        refine (matPurity_any _ _ _ _ _ _ (HX.out.frame Hm.out)).mono ?_; rw [Hpk.out]; rintro e w2 ⟨rfl, m⟩
        have M2 := Lib.hid (Hm.out.trans m); clear m
        go_wp2
        refine ⟨⟨k + 1, P + p, by omega, by go_num, rfl, M2.out, by omega, by omega, Q2.out, ?_⟩, by simp [intOf]; omega⟩
        have := Q3.out
        rw [show ((k + 1 : Nat) : Int) = (k : Int) + 1 by simp]
        exact this
      · obtain rfl : k = xs.length := by omega
        have h1 := Hi1.out
        have h2 := Hi2.out
        rw [List.take_length, HS.out] at h1 h2
        obtain ⟨r1, r2⟩ := pur_end Hpos.out (by omega) h1 h2
        have M2 := Lib.hid Hm.out
        clear h1 h2
        go_wp2_with fail
        refine (awake_any _).mono ?_; rintro e w9 ⟨rfl, m⟩; have M2 := Lib.hid (M2.out.trans m); clear m
        go_wp2
        go_ret
        exact ⟨rfl, M2.out⟩
  · have E := Lib.hid (purL_zero hg)
    have hne : ((purL xs 0).2 != 0) = true := by simpa using purL_zero hg
    have ht : ((totL xs).2 != 0) = true ∨ (((totL xs).2 != 0) = false ∧ ((totL xs).1 == 0) = true) := by
      by_cases h0 : (totL xs).2 = 0
      · refine .inr ⟨by simpa using h0, ?_⟩
        by_cases h2 : (totL xs).1 = 0
        · simpa using h2
        · exact absurd ⟨h0, h2⟩ hg
      · exact .inl (by simpa using h0)
    clear h1 hg
    rcases ht with ht | ⟨ht, ht2⟩
    all_goals
      go_enter Try.func10, Try.ntmps10
      go_wp2_with fail
      refine (great_any _ _ _ _ Hlx.out).mono ?_; rintro e w1 ⟨rfl, rfl⟩; rw [H1.out]
      go_wp2_with fail
      refine (matTotal_any _ _ _ _ _ HX.out).mono ?_; rintro e w1 ⟨rfl, m⟩
      have M := Lib.hid (M.out.trans m); have HX := Lib.hid (HX.out.frame m); clear m
      go_wp2_with fail
      refine (matPurity_any _ _ _ _ _ _ HX.out).mono ?_; rintro e w2 ⟨rfl, m⟩
      have M := Lib.hid (M.out.trans m); clear m
      go_wp2_with fail
      refine (awake_any _).mono ?_; rintro e w9 ⟨rfl, m⟩; have M := Lib.hid (M.out.trans m); clear m
      go_wp2
      go_ret
      exact ⟨rfl, M.out⟩

end Go.Proofs.Ytghciackhkimoaa
