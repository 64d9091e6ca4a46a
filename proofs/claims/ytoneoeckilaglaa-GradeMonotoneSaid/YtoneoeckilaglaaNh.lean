/-
  num.Scale, the reference's Scale and the two Mul.
-/
import Derived.Test.YtoneoeckilaglaaNg
import Derived.Deep.DeepCutAuto
import Derived.Deep.CutBlock
set_option linter.unusedVariables false
set_option linter.unusedSimpArgs false
namespace Go.Proofs.Ytoneoeckilaglaa
open Go.RowKit

theorem numScale_any (a b c mode : Int) (w : World) : Calls Try.prog 25 #[.int .i64 a, .int .i64 b, .int .i64 c, .int .i64 mode] w fun e w' => e = .returned (.tuple #[.int .i64 (scaleN a b c mode).1, .int .i64 (scaleN a b c mode).2]) ∧ Mod NoBlock w w' := by
  cases h : goodN a b c mode
  · rw [scaleN_bad h]; exact numScale_bad a b c mode h w
  · exact numScale_ok a b c mode h w

theorem bad_cases {a b c mode : Int} (h : goodN a b c mode = false) : inB a = false ∨ (inB a = true ∧ (inB b = false ∨ (inB b = true ∧ (inB c = false ∨ (inB c = true ∧ (c = 0 ∨ c ≠ 0 ∧ (mode < 0 ∨ ¬ mode < 0 ∧ 3 < mode))))))) := by
  rcases good_cases h with h1 | ⟨h1, h2⟩
  · cases ha : inB a
    · exact .inl rfl
    · refine .inr ⟨rfl, ?_⟩
      cases hb : inB b
      · exact .inl rfl
      · refine .inr ⟨rfl, .inl ?_⟩
        simpa [ha, hb] using h1
  · simp only [Bool.and_eq_true] at h1
    exact .inr ⟨h1.1, .inr ⟨h1.2.1, .inr ⟨h1.2.2, h2⟩⟩⟩

set_option maxHeartbeats 800000 in
theorem refScale_bad (a b c mode : Int) (h : goodN a b c mode = false) (w : World) : Calls Try.prog 26 #[.int .i64 a, .int .i64 b, .int .i64 c, .int .i64 mode] w fun e w' => e = .returned (.tuple #[.int .i64 0, .int .i64 1]) ∧ w = w' := by
  rcases bad_cases h with h1 | ⟨h1, h2 | ⟨h2, h3 | ⟨h3, rfl | ⟨h4, h5 | ⟨h5, h6⟩⟩⟩⟩⟩
  all_goals
    have H1 := Lib.hid h1
    try have H2 := Lib.hid h2
    try have H3 := Lib.hid h3
    try have hc0 : (c == 0) = false := by rw [beq_eq_false_iff_ne]; exact h4
    clear h h1
    try clear h2
    try clear h3
    try clear h4
    go_enter Try.func26, Try.ntmps26
    go_wp2_with (go_at_call 35; refine (refIn_any _ _).mono ?_; rintro e w9 ⟨rfl, rfl⟩; first | rw [H1.out] | rw [H2.out] | rw [H3.out])
    go_ret2
    exact ⟨rfl, rfl⟩

theorem divV_ok' {X Y Z Q R : Nat} (h : X * Y / Z = Q) (h2 : X * Y % Z = R) (hq : Q ≤ 1125899906842624) : divV X Y Z = .tuple #[.int .i64 Q, .int .i64 R, .bool true] := by subst h; subst h2; exact divV_ok hq

set_option maxRecDepth 100000 in
set_option maxHeartbeats 4000000 in
theorem refScale_ok (a b c mode : Int) (h : goodN a b c mode = true) (w : World) : Calls Try.prog 26 #[.int .i64 a, .int .i64 b, .int .i64 c, .int .i64 mode] w fun e w' => e = .returned (.tuple #[.int .i64 (scaleN a b c mode).1, .int .i64 (scaleN a b c mode).2]) ∧ w = w' := by
  have hs := scaleN_ok h
  obtain ⟨h1, hc, hm0, hm3⟩ := good_true h
  have hin := h1
  simp only [Bool.and_eq_true] at hin
  have Ia := Lib.hid hin.1
  have Ib := Lib.hid hin.2.1
  have Ic := Lib.hid hin.2.2
  have ia := inB_true.1 hin.1
  have ib := inB_true.1 hin.2.1
  have ic := inB_true.1 hin.2.2
  have hc0 : (c == 0) = false := by rw [beq_eq_false_iff_ne]; exact hc
  have g1 : decide (mode < 0) = false := decide_eq_false (by omega)
  have g2 : decide (3 < mode) = false := decide_eq_false (by omega)
  obtain ⟨X, hX⟩ : ∃ X : Nat, a.natAbs = X := ⟨_, rfl⟩
  obtain ⟨Y, hY⟩ : ∃ X : Nat, b.natAbs = X := ⟨_, rfl⟩
  obtain ⟨Z, hZ⟩ : ∃ X : Nat, c.natAbs = X := ⟨_, rfl⟩
  have eX : absN a = (X : Int) := by simp only [absN, hX]
  have eY : absN b = (Y : Int) := by simp only [absN, hY]
  have eZ : absN c = (Z : Int) := by simp only [absN, hZ]
  have bX : X ≤ 1125899906842624 := by omega
  have bY : Y ≤ 1125899906842624 := by omega
  have bZ : Z ≤ 1125899906842624 := by omega
  have pZ : 0 < Z := by omega
  obtain ⟨na, hna⟩ : ∃ v : Bool, decide (a < 0) = v := ⟨_, rfl⟩
  obtain ⟨nb, hnb⟩ : ∃ v : Bool, decide (b < 0) = v := ⟨_, rfl⟩
  obtain ⟨nc, hnc⟩ : ∃ v : Bool, decide (c < 0) = v := ⟨_, rfl⟩
  have hneg : negB a b c = ((na != nb) != nc) := by simp only [negB, hna, hnb, hnc]
  have hq : quoN a b c mode = X * Y / Z + (if upB mode ((na != nb) != nc) (X * Y / Z) (X * Y % Z) Z then 1 else 0) := by simp only [quoN, hX, hY, hZ, hneg]
  obtain ⟨Q, hQd⟩ : ∃ D, X * Y / Z = D := ⟨_, rfl⟩
  obtain ⟨R, hRd⟩ : ∃ D, X * Y % Z = D := ⟨_, rfl⟩
  have hRZ : R < Z := by rw [← hRd]; exact Nat.mod_lt _ pZ
  rw [hQd, hRd] at hq
  have Hs := Lib.hid (show scaleN a b c mode = chkN (signN ((na != nb) != nc) (Q + if upB mode ((na != nb) != nc) Q R Z then 1 else 0)) by rw [hs, hq, hneg])
  have Hr := Lib.hid (show (-1125899906842624 ≤ a ∧ a ≤ 1125899906842624) ∧ (-1125899906842624 ≤ b ∧ b ≤ 1125899906842624) ∧ (-1125899906842624 ≤ c ∧ c ≤ 1125899906842624) from ⟨ia, ib, ic⟩)
  have HbX := Lib.hid bX
  have HbY := Lib.hid bY
  have HbZ := Lib.hid bZ
  have HpZ := Lib.hid pZ
  clear h1 hin h hX hY hZ ia ib ic hneg hq hs hc
  by_cases hQ : Q ≤ 1125899906842624
  · have E := Lib.hid (divV_ok' hQd hRd hQ)
    obtain ⟨ng, hng⟩ : ∃ v : Bool, ((na != nb) != nc) = v := ⟨_, rfl⟩
    rw [hng] at Hs
    have HQ := Lib.hid hQ
    have HRZ := Lib.hid hRZ
    have b1 : (Q : Int) ≤ 1125899906842624 := by omega
    have b2 : (R : Int) ≤ 1125899906842624 := by omega
    have b3 : (Z : Int) ≤ 1125899906842624 := by omega
    obtain ⟨u, hu⟩ : ∃ u, upB mode ng Q R Z = u := ⟨_, rfl⟩
    rw [hu] at Hs
    have HU := Lib.hid hu
    have H0 := Lib.hid (show 0 ≤ mode ∧ mode ≤ 3 from ⟨hm0, hm3⟩)
    have Hng := Lib.hid hng
    clear hQd hRd hRZ hQ bX bY bZ pZ hm0 hm3 hu hng
    go_enter Try.func26, Try.ntmps26
    go_upto_if 56 with (first
      | (go_at_call 35; refine (refIn_any _ _).mono ?_; rintro e w9 ⟨rfl, rfl⟩; first | rw [Ia.out] | rw [Ib.out] | rw [Ic.out])
      | (go_at_call 37; refine (refAbs_any _ (by have := Hr.out; omega) _).mono ?_; rintro e w8 ⟨rfl, rfl⟩)
      | (go_at_call 36; refine (refDivide_any X Y Z HbX.out HbY.out HpZ.out HbZ.out _).mono ?_; rintro e w8 ⟨rfl, rfl⟩; rw [E.out]))
    go_cut [13] (fun s13 wx => s13 = .bool (na != nb) ∧ w = wx)
    case first =>
      cases na <;> cases nb
      all_goals (go_wp2_with fail; go_meet; exact ⟨rfl, rfl⟩)
    case rest =>
      obtain ⟨rfl, rfl⟩ := hcut
      go_upto_if 60 with fail
      go_cut [13] (fun s13 wx => s13 = .bool ng ∧ w = wx)
      case first =>
        have hng := Hng.out
        cases na <;> cases nb <;> cases nc <;> simp at hng <;> subst hng
        all_goals (go_wp2_with fail; go_meet; exact ⟨rfl, rfl⟩)
      case rest =>
        obtain ⟨rfl, rfl⟩ := hcut
        go_upto_block 0 with fail
        go_cut [14] (fun s14 wx => s14 = .bool u ∧ w = wx)
        case first =>
          rcases (by have := H0.out; omega : mode = 0 ∨ mode = 1 ∨ mode = 2 ∨ mode = 3) with rfl | rfl | rfl | rfl
          all_goals (go_wp2_with (go_at_call 37; refine (refAbs_any _ (by have := Hr.out; omega) _).mono ?_; rintro e w8 ⟨rfl, rfl⟩))
          all_goals go_meet
          all_goals (refine ⟨congrArg Value.bool ?_, rfl⟩; have hu := HU.out)
          all_goals (first | rw [upB0] at hu | rw [upB1] at hu | rw [upB2] at hu | rw [upB3] at hu)
          all_goals (rw [← hu])
          all_goals (first
            | (rw [Bool.eq_iff_iff]; simp; omega)
            | (have h9 : 0 < R := by omega
               simp [h9])
            | (have h9 : ¬ 0 < R := by omega
               simp [h9])
            | go_show)
        case rest =>
          obtain ⟨rfl, rfl⟩ := hcut
          cases u <;> cases ng
          all_goals (go_wp2_with (go_at_call 38; refine (bounded_any _ _).mono ?_; rintro e w8 ⟨rfl, rfl⟩))
          all_goals go_ret2
          all_goals (rw [Hs.out]; exact ⟨by simp [signN], rfl⟩)
  · have E := Lib.hid (divV_bad (A := X) (B := Y) (C := Z) (by rw [hQd]; exact hQ))
    have Es := Lib.hid (show scaleN a b c mode = (0, 2) by rw [Hs.out]; exact chk_over (by omega))
    clear hQd hRd hRZ hQ bX bY bZ pZ hm0 hm3
    go_enter Try.func26, Try.ntmps26
    go_wp2_with (first
      | (go_at_call 35; refine (refIn_any _ _).mono ?_; rintro e w9 ⟨rfl, rfl⟩; first | rw [Ia.out] | rw [Ib.out] | rw [Ic.out])
      | (go_at_call 37; refine (refAbs_any _ (by have := Hr.out; omega) _).mono ?_; rintro e w8 ⟨rfl, rfl⟩)
      | (go_at_call 36; refine (refDivide_any X Y Z HbX.out HbY.out HpZ.out HbZ.out _).mono ?_; rintro e w8 ⟨rfl, rfl⟩; rw [E.out]))
    go_ret2
    rw [Es.out]
    exact ⟨rfl, rfl⟩

end Go.Proofs.Ytoneoeckilaglaa
