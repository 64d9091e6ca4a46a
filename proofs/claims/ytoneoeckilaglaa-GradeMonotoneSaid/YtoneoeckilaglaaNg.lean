/-
  num.Scale.
-/
import Derived.Test.YtoneoeckilaglaaNf
set_option linter.unusedVariables false
set_option linter.unusedSimpArgs false
namespace Go.Proofs.Ytoneoeckilaglaa
open Go.RowKit

theorem good_true {a b c mode : Int} (h : goodN a b c mode = true) : (inB a && (inB b && inB c)) = true ∧ c ≠ 0 ∧ 0 ≤ mode ∧ mode ≤ 3 := by
  unfold goodN at h
  simp only [Bool.and_eq_true, decide_eq_true_eq] at h ⊢
  exact ⟨h.1.1.1, h.1.1.2, h.1.2, h.2⟩
theorem whole_quo {X Y Z : Nat} (hZ : 0 < Z) : X % Z * Y / Z + X / Z * Y = X * Y / Z ∧ X % Z * Y % Z = X * Y % Z := by
  have h := Nat.div_add_mod X Z
  have e : X * Y = Z * (X / Z * Y) + X % Z * Y := by
    conv => lhs; rw [← h]
    rw [Nat.add_mul, Nat.mul_assoc]
  rw [e, Nat.mul_add_div hZ, Nat.mul_add_mod]; omega

theorem numDivide_n (A B C D R : Nat) (hA : A < C) (hB : B ≤ 1125899906842624) (hC2 : C ≤ 1125899906842624) (hD : A * B / C = D) (hR : A * B % C = R) (w : World) :
    Calls Try.prog 32 #[.int .i64 A, .int .i64 B, .int .i64 C] w fun e w' => e = .returned (.tuple #[.int .i64 D, .int .i64 R]) ∧ w = w' := by
  subst hD; subst hR; exact numDivide_any A B C hA hB hC2 w

set_option maxRecDepth 100000 in
set_option maxHeartbeats 800000 in
theorem numScale_ok (a b c mode : Int) (h : goodN a b c mode = true) (w : World) : Calls Try.prog 25 #[.int .i64 a, .int .i64 b, .int .i64 c, .int .i64 mode] w fun e w' => e = .returned (.tuple #[.int .i64 (scaleN a b c mode).1, .int .i64 (scaleN a b c mode).2]) ∧ Mod NoBlock w w' := by
  have hs := scaleN_ok h
  obtain ⟨h1, hc, hm0, hm3⟩ := good_true h
  have h' := Lib.hid h1
  have hin := h1
  simp only [Bool.and_eq_true] at hin
  have ia := inB_true.1 hin.1
  have ib := inB_true.1 hin.2.1
  have ic := inB_true.1 hin.2.2
  have hc0 : (c == 0) = false := by rw [beq_eq_false_iff_ne]; exact hc
  have g1 : decide (mode < 0) = false := decide_eq_false (by omega)
  have g2 : decide (3 < mode) = false := decide_eq_false (by omega)
  obtain ⟨X, hX⟩ : ∃ X : Nat, a.natAbs = X := ⟨_, rfl⟩
  obtain ⟨Y, hY⟩ : ∃ X : Nat, b.natAbs = X := ⟨_, rfl⟩
  obtain ⟨Z, hZ⟩ : ∃ X : Nat, c.natAbs = X := ⟨_, rfl⟩
  have eX : absN a = (X : Int) := by simp only [absN, hX]
  have eY : absN b = (Y : Int) := by simp only [absN, hY]
  have eZ : absN c = (Z : Int) := by simp only [absN, hZ]
  have bX : X ≤ 1125899906842624 := by omega
  have bY : Y ≤ 1125899906842624 := by omega
  have bZ : Z ≤ 1125899906842624 := by omega
  have pZ : 0 < Z := by omega
  have zZ : ((Z : Int) == 0) = false := by rw [beq_eq_false_iff_ne]; omega
  obtain ⟨na, hna⟩ : ∃ v : Bool, decide (a < 0) = v := ⟨_, rfl⟩
  obtain ⟨nb, hnb⟩ : ∃ v : Bool, decide (b < 0) = v := ⟨_, rfl⟩
  obtain ⟨nc, hnc⟩ : ∃ v : Bool, decide (c < 0) = v := ⟨_, rfl⟩
  have hneg : negB a b c = ((na != nb) != nc) := by simp only [negB, hna, hnb, hnc]
  have hq : quoN a b c mode = X * Y / Z + (if upB mode ((na != nb) != nc) (X * Y / Z) (X * Y % Z) Z then 1 else 0) := by simp only [quoN, hX, hY, hZ, hneg]
  obtain ⟨hw1, hw2⟩ := whole_quo (X := X) (Y := Y) pZ
  obtain ⟨Q, hQd⟩ : ∃ D, X * Y / Z = D := ⟨_, rfl⟩
  obtain ⟨R, hRd⟩ : ∃ D, X * Y % Z = D := ⟨_, rfl⟩
  have hRZ : R < Z := by rw [← hRd]; exact Nat.mod_lt _ pZ
  have HRZ := Lib.hid hRZ
  rw [hQd, hRd] at hq
  obtain ⟨ng, hng⟩ : ∃ v : Bool, ((na != nb) != nc) = v := ⟨_, rfl⟩
  have hng2 : (!(!na == nb) == nc) = ng := by rw [← hng]; cases na <;> cases nb <;> cases nc <;> rfl
  rw [hng] at hq hneg
  obtain ⟨u, hu⟩ : ∃ u, upB mode ng Q R Z = u := ⟨_, rfl⟩
  rw [hu] at hq
  have Hu := Lib.hid hu
  have Hs := Lib.hid (show scaleN a b c mode = chkN (signN ng (Q + if u then 1 else 0)) by rw [hs, hq, hneg])
  have Hr := Lib.hid (show (-1125899906842624 ≤ a ∧ a ≤ 1125899906842624) ∧ (-1125899906842624 ≤ b ∧ b ≤ 1125899906842624) ∧ (-1125899906842624 ≤ c ∧ c ≤ 1125899906842624) from ⟨ia, ib, ic⟩)
  have Hm := Lib.hid (show 0 ≤ mode ∧ mode ≤ 3 from ⟨hm0, hm3⟩)
  have HbX := Lib.hid bX
  have HbY := Lib.hid bY
  have HbZ := Lib.hid bZ
  clear hng h1 hin h hX hY hZ ia ib ic hneg hq hs hu hRZ hm0 hm3 hc
  by_cases hXZ : X < Z
  · have HXZ := Lib.hid hXZ
    have eD : (X : Int) / Z = 0 := by rw [Int.ediv_eq_zero_of_lt (by omega) (by omega)]
    have eD2 : (X : Int).tdiv Z = 0 := by rw [Int.tdiv_eq_ediv_of_nonneg (by omega)]; exact eD
    have eM : (X : Int) % Z = X := Int.emod_eq_of_lt (by omega) (by omega)
    have eM2 : (X : Int).tmod Z = X := by rw [Int.tmod_eq_emod_of_nonneg (by omega)]; exact eM
    have hQY : Q ≤ 1125899906842624 := by
      rw [← hQd]
      have := Nat.mul_le_mul_right Y (Nat.le_of_lt hXZ)
      exact Nat.le_trans (Nat.div_le_of_le_mul this) bY
    have HQY := Lib.hid hQY
    have HQd := Lib.hid hQd
    have HRd := Lib.hid hRd
    have pZi : (0 : Int) < Z := by omega
    clear hQd hRd hXZ hQY pZ bX bY bZ
    go_enter Try.func25, Try.ntmps25
    go_wp2_with fail
    refine (numIn3 a b _ _ _).mono ?_; rintro e w9 ⟨rfl, hmc⟩; rw [h'.out]; have Hmc := Lib.hid hmc; clear hmc
    go_wp2_with fail
    refine (numAbs_any _ (by have := Hr.out; omega) _).mono ?_; rintro e w8 ⟨rfl, rfl⟩
    go_wp2_with fail
    refine (numAbs_any _ (by have := Hr.out; omega) _).mono ?_; rintro e w8 ⟨rfl, rfl⟩
    go_wp2_with fail
    refine (numAbs_any _ (by have := Hr.out; omega) _).mono ?_; rintro e w8 ⟨rfl, rfl⟩
    go_wp2_with fail
    refine (numDivide_n _ _ _ _ _ HXZ.out HbY.out HbZ.out HQd.out HRd.out _).mono ?_; rintro e w8 ⟨rfl, rfl⟩
    have b1 : (Q : Int) ≤ 1125899906842624 := by have := HQY.out; omega
    go_wp2_with fail
    refine (numUp_any _ _ _ _ _ Hm.out HRZ.out HbZ.out (by have := HQY.out; omega) _).mono ?_; rintro e w8 ⟨rfl, rfl⟩
    rw [Hu.out]
    clear hng2
    cases u
    all_goals cases ng
    all_goals go_wp2_with fail
    all_goals (refine (checked_any _ _).mono ?_; rintro e w8 ⟨rfl, hmd⟩)
    all_goals go_wp2
    all_goals go_ret2
    all_goals (rw [Hs.out]; exact ⟨by simp [signN], Hmc.out.trans hmd⟩)
  · obtain ⟨hw1, hw2⟩ := whole_quo (X := X) (Y := Y) pZ
    rw [hQd] at hw1
    rw [hRd] at hw2
    have hV : X % Z < Z := Nat.mod_lt _ pZ
    have hW1 : 1 ≤ X / Z := Nat.div_pos (by omega) pZ
    have hW2 : X / Z ≤ X := Nat.div_le_self _ _
    have eD : (X : Int) / Z = ((X / Z : Nat) : Int) := by simp
    have eD2 : (X : Int).tdiv Z = ((X / Z : Nat) : Int) := by rw [Int.tdiv_eq_ediv_of_nonneg (by omega)]; simp
    have eM : (X : Int) % Z = ((X % Z : Nat) : Int) := by simp
    have eM2 : (X : Int).tmod Z = ((X % Z : Nat) : Int) := by rw [Int.tmod_eq_emod_of_nonneg (by omega)]; simp
    have hDY : X % Z * Y / Z ≤ Y := Nat.div_le_of_le_mul (Nat.mul_le_mul_right Y (Nat.le_of_lt hV))
    clear hQd hRd
    generalize X / Z = W at *
    generalize X % Z = V at *
    obtain ⟨D, hDd⟩ : ∃ D, V * Y / Z = D := ⟨_, rfl⟩
    rw [hDd] at hw1 hDY
    have eMW : (1125899906842624 : Int) / W = ((1125899906842624 / W : Nat) : Int) := by simp
    have eMW2 : (1125899906842624 : Int).tdiv W = ((1125899906842624 / W : Nat) : Int) := by rw [Int.tdiv_eq_ediv_of_nonneg (by omega)]; simp
    have hle := @Nat.le_div_iff_mul_le W Y 1125899906842624 (by omega)
    have hML : 1125899906842624 / W ≤ 1125899906842624 := Nat.div_le_self _ _
    obtain ⟨M, hM⟩ : ∃ M, 1125899906842624 / W = M := ⟨_, rfl⟩
    rw [hM] at eMW eMW2 hle hML
    rw [Nat.mul_comm] at hle
    have eP2 : (W : Int) * Y = ((W * Y : Nat) : Int) := by simp
    generalize W * Y = P at *
    have hWz : ((W : Int) != 0) = true := by rw [bne_iff_ne]; omega
    have HXZ := Lib.hid hV
    have HDd := Lib.hid hDd
    have HRd := Lib.hid hw2
    have HW := Lib.hid (show D + P = Q ∧ D ≤ Y from ⟨hw1, hDY⟩)
    have w1 : (1 : Int) ≤ W := by omega
    have w2 : (W : Int) ≤ 1125899906842624 := by omega
    have w3 : (0 : Int) < W := by omega
    have w4 : (M : Int) ≤ 1125899906842624 := by omega
    have pZi : (0 : Int) < Z := by omega
    by_cases hov : Y ≤ M
    · have HQ := Lib.hid (show D + P = Q ∧ P ≤ 1125899906842624 ∧ D ≤ 1125899906842624 from ⟨hw1, hle.1 hov, by omega⟩)
      have dM : decide (M < Y) = false := decide_eq_false (by omega)
      clear hov hle hM hDd hw1 hw2 hV hDY hW1 hW2 hXZ pZ bX bY bZ hML
      go_enter Try.func25, Try.ntmps25
      go_wp2_with fail
      refine (numIn3 a b _ _ _).mono ?_; rintro e w9 ⟨rfl, hmc⟩; rw [h'.out]; have Hmc := Lib.hid hmc; clear hmc
      go_wp2_with fail
      refine (numAbs_any _ (by have := Hr.out; omega) _).mono ?_; rintro e w8 ⟨rfl, rfl⟩
      go_wp2_with fail
      refine (numAbs_any _ (by have := Hr.out; omega) _).mono ?_; rintro e w8 ⟨rfl, rfl⟩
      go_wp2_with fail
      refine (numAbs_any _ (by have := Hr.out; omega) _).mono ?_; rintro e w8 ⟨rfl, rfl⟩
      go_wp2_with fail
      refine (numDivide_n _ _ _ _ _ HXZ.out HbY.out HbZ.out HDd.out HRd.out _).mono ?_; rintro e w8 ⟨rfl, rfl⟩
      have p1 : (P : Int) ≤ 1125899906842624 := by have := HQ.out; omega
      have p2 : (D : Int) ≤ 1125899906842624 := by have := HQ.out; omega
      have p3 : (D : Int) + P = Q := by have := HQ.out; omega
      have b1 : (Q : Int) ≤ 2251799813685248 := by have := HQ.out; omega
      go_wp2_with fail
      refine (numUp_any _ _ _ _ _ Hm.out HRZ.out HbZ.out (by have := HQ.out; omega) _).mono ?_; rintro e w8 ⟨rfl, rfl⟩
      rw [Hu.out]
      clear hng2
      cases u
      all_goals cases ng
      all_goals go_wp2_with fail
      all_goals (refine (checked_any _ _).mono ?_; rintro e w8 ⟨rfl, hmd⟩)
      all_goals go_wp2
      all_goals go_ret2
      all_goals (rw [Hs.out]; exact ⟨by simp [signN], Hmc.out.trans hmd⟩)
    · have HQ := Lib.hid (show 1125899906842624 < Q from by have : ¬ P ≤ 1125899906842624 := fun h => hov (hle.2 h); omega)
      have dM : decide (M < Y) = true := decide_eq_true (by omega)
      clear hov hle hM hDd hw1 hw2 hV hDY hW1 hW2 hXZ pZ bX bY bZ hML
      go_enter Try.func25, Try.ntmps25
      go_wp2_with fail
      refine (numIn3 a b _ _ _).mono ?_; rintro e w9 ⟨rfl, hmc⟩; rw [h'.out]; have Hmc := Lib.hid hmc; clear hmc
      go_wp2_with fail
      refine (numAbs_any _ (by have := Hr.out; omega) _).mono ?_; rintro e w8 ⟨rfl, rfl⟩
      go_wp2_with fail
      refine (numAbs_any _ (by have := Hr.out; omega) _).mono ?_; rintro e w8 ⟨rfl, rfl⟩
      go_wp2_with fail
      refine (numAbs_any _ (by have := Hr.out; omega) _).mono ?_; rintro e w8 ⟨rfl, rfl⟩
      go_wp2
      go_ret2
      rw [Hs.out, chk_over (by have := HQ.out; omega)]
      exact ⟨rfl, Hmc.out⟩

end Go.Proofs.Ytoneoeckilaglaa
