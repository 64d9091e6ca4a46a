/-
  camera: the reference's Purity.
-/
import Derived.Test.YtgoccfjmghhaoaaCu
set_option linter.unusedVariables false
set_option linter.unusedSimpArgs false
namespace Go.Proofs.Ytgoccfjmghhaoaa
open Go.RowKit

set_option maxRecDepth 100000 in
set_option maxHeartbeats 3200000 in
theorem refPurity_any (a : Option Addr) (c : Nat) (l : List (List Int)) (a2 : Option Addr) (c2 : Nat) (p : List Int) (cls m : Int) (D D2 : Nat → Prop) (w : World) (hx : Mixes D w a l) (hp : Ints D2 w a2 p) :
    Calls Try.prog 23 #[.agg #[.slice a l.length c], .slice a2 p.length c2, .int .i64 cls, .int .i64 m] w fun e w' => e = .returned (.tuple #[.int .i64 (purM l p cls m).1, .int .i64 (purM l p cls m).2]) ∧ Mod NoBlock w w' := by
  have m0 := (Mod.refl NoBlock w).alloc (.cells #[.slice a l.length c] 24)
  have HX := Lib.hid (hx.frame m0)
  have HP := Lib.hid (hp.frame m0)
  have M := Lib.hid m0
  have HC := Lib.hid (cell_new w #[.slice a l.length c] 24 0 _ rfl)
  have HF := Lib.hid (fun w' h1 h2 => refFault_any a c l a2 c2 p cls D D2 w' h1 h2)
  clear hx hp m0
  by_cases h : expE l p cls = 0
  · have He := Lib.hid h
    obtain ⟨C, rfl, hok⟩ := expE_ok h
    have OK := Lib.hid hok
    obtain ⟨hlp, p1, p16⟩ := hok.len
    have Hlp := Lib.hid hlp
    have Hl := Lib.hid (purM_ok (m := m) hok)
    have n1 : (1 : Int) ≤ p.length := by omega
    have n16 : (p.length : Int) ≤ 16 := by omega
    have c0 : (0 : Int) ≤ C := by omega
    clear h hok hlp
    by_cases hm : m < 0 ∨ (¬ m < 0 ∧ (p.length : Int) ≤ m)
    · rw [if_pos (by omega)] at Hl
      rw [Hl.out]
      rcases hm with q | ⟨q, q2⟩
      all_goals
        go_enter Try.func23, Try.ntmps23
        go_wp2_with fail
        generalize w.alloc (.cells #[.slice a l.length c] 24) = w0 at HX HP M HC ⊢
        refine (HF.out _ HX.out HP.out).mono ?_
        rw [He.out]
        rintro e w1 ⟨rfl, m1⟩
        replace M := Lib.hid (M.out.trans m1)
        clear m1
        go_wp2
        go_ret2
        exact ⟨rfl, M.out⟩
    · rw [if_neg (by omega)] at Hl
      obtain ⟨K, rfl⟩ : ∃ K : Nat, m = K := ⟨m.toNat, by omega⟩
      rw [Int.toNat_natCast] at Hl
      have hK : K < p.length := by omega
      have kI : (K : Int) < p.length := by omega
      have k0 : (0 : Int) ≤ K := by omega
      have HS := Lib.hid (fun k hk => expOk_sum OK.out k hk)
      have HlA := Lib.hid (fun h : sumF (ef l p C) p.length = 0 => Hl.out.trans (if_pos h))
      have HlB := Lib.hid (fun h : ¬ sumF (ef l p C) p.length = 0 => Hl.out.trans (if_neg h))
      clear hm Hl
      go_enter Try.func23, Try.ntmps23
      go_wp2_with fail
      generalize w.alloc (.cells #[.slice a l.length c] 24) = w0 at HX HP M HC ⊢
      refine (HF.out _ HX.out HP.out).mono ?_
      rw [He.out]
      rintro e w1 ⟨rfl, m1⟩
      replace M := Lib.hid (M.out.trans m1)
      replace HX := Lib.hid (HX.out.frame m1)
      replace HP := Lib.hid (HP.out.frame m1)
      have hB := m1.cell HC.out id
      obtain ⟨b, off, bp, op, rfl, rfl, hpc⟩ := part_cells OK.out HX.out HP.out
      have Hpc := Lib.hid hpc
      have Hef := Lib.hid (show ∀ k, ef l p C k = ix p k * ix (rx l k) C from fun k => rfl)
      clear m1 HC hpc HX HP HF
      go_wp2
      go_loopw [11, 12] (fun s i wr => ∃ k : Nat, k ≤ p.length ∧ i = .int .i64 k ∧ s = .int .i64 (sumF (ef l p C) k) ∧ ∃ n, wr = w1.drewN n) (fun _ i _ => p.length - (intOf i).toNat)
      case atStart => exact ⟨0, by omega, rfl, rfl, 0, rfl⟩
      case round =>
        obtain ⟨k, hk, rfl, rfl, nd, rfl⟩ := hrel
        by_cases hlt : k < p.length
        · obtain ⟨u1, br1, or1, cr1, u2, u3⟩ := Hpc.out k hlt
          obtain ⟨hrr, rl1, rh1⟩ := OK.out.row hlt
          obtain ⟨pl1, ph1⟩ := OK.out.prior hlt
          have hef1 := OK.out.ef hlt
          obtain ⟨s0, s1⟩ := HS.out k hk
          have Hk := Lib.hid (show sumF (ef l p C) (k + 1) = sumF (ef l p C) k + ix p k * ix (rx l k) C from rfl)
          rw [Hef.out] at hef1
          have k1 : (k : Int) < p.length := by omega
          have k2 : (k : Int) < l.length := by have := Hlp.out; omega
          have kk0 : (0 : Int) ≤ (k : Int) := by omega
          have r1 : (C : Int) < ((rx l k).length : Int) := by omega
          generalize sumF (ef l p C) k = s at s0 s1 Hk
          generalize ix p k = x1 at u1 pl1 ph1 hef1 Hk
          generalize ix (rx l k) C = y1 at u3 rl1 rh1 hef1 Hk
          have e1 : IntKind.i64.wrap (x1 * y1) = x1 * y1 := IntWalk.i64_in _ (by omega)
          have e2 : IntKind.i64.wrap (s + x1 * y1) = s + x1 * y1 := IntWalk.i64_in _ (by omega)
          clear hef1 rl1 rh1 pl1 ph1 s0 s1
          go_wp2_with (go_quiet (fail))
          exact ⟨⟨k + 1, by omega, by go_num, by rw [Hk.out], _, rfl⟩, by simp [intOf]; omega⟩
        · have hkp : k = p.length := by omega
          obtain ⟨u1, br1, or1, cr1, u2, u3⟩ := Hpc.out K hK
          obtain ⟨hrr, rl1, rh1⟩ := OK.out.row hK
          obtain ⟨pl1, ph1⟩ := OK.out.prior hK
          have hef1 := OK.out.ef hK
          obtain ⟨s0, s1⟩ := HS.out p.length (Nat.le_refl _)
          rw [hkp]
          rw [Hef.out] at hef1
          rw [Hef.out] at HlB
          have k1 : (K : Int) < p.length := by omega
          have k2 : (K : Int) < l.length := by have := Hlp.out; omega
          have r1 : (C : Int) < ((rx l K).length : Int) := by omega
          generalize sumF (ef l p C) p.length = s at s0 s1 HlA HlB ⊢
          generalize ix p K = x1 at u1 pl1 ph1 hef1 HlB
          generalize ix (rx l K) C = y1 at u3 rl1 rh1 hef1 HlB
          have e1 : IntKind.i64.wrap (x1 * y1) = x1 * y1 := IntWalk.i64_in _ (by omega)
          have e2 : IntKind.i64.wrap (x1 * y1 * 1000) = x1 * y1 * 1000 := IntWalk.i64_in _ (by omega)
          by_cases hz : s = 0
          · have HA := Lib.hid (HlA.out hz)
            subst hz
            clear hef1 rl1 rh1 pl1 ph1 HlA HlB
            go_wp2
            go_ret2
            rw [HA.out]
            exact ⟨rfl, M.out.drewN _⟩
          · have HB := Lib.hid (HlB.out hz)
            have hs : (s == 0) = false := by simpa using hz
            have hs2 : 0 < s := by omega
            obtain ⟨z, hzz⟩ : ∃ z, x1 * y1 = z := ⟨_, rfl⟩
            have eq1 : (x1 * y1 * 1000).tdiv s = x1 * y1 * 1000 / s := Int.tdiv_eq_ediv_of_nonneg (by omega)
            have hd0 : 0 ≤ x1 * y1 * 1000 / s := Int.ediv_nonneg (by omega) (by omega)
            have hd1 : x1 * y1 * 1000 / s ≤ x1 * y1 * 1000 := Int.ediv_le_self _ (by omega)
            have hd2 : x1 * y1 * 1000 / s ≤ 1073741824000000 := by omega
            have hs3 : s ≤ 17179869184000 := by omega
            clear hd1 hef1 rl1 rh1 pl1 ph1 HlA HlB hzz
            generalize x1 * y1 * 1000 / s = y at eq1 hd0 hd2 HB
            go_wp2_with (go_quiet (fail))
            go_ret2
            rw [HB.out]
            exact ⟨rfl, (M.out.drewN _).drewN _⟩
  · rw [purM_bad h]
    have hne : (expE l p cls != 0) = true := by simpa using h
    clear h
    go_enter Try.func23, Try.ntmps23
    go_wp2_with fail
    generalize w.alloc (.cells #[.slice a l.length c] 24) = w0 at HX HP M HC ⊢
    refine (HF.out _ HX.out HP.out).mono ?_
    rintro e w1 ⟨rfl, m1⟩
    replace M := Lib.hid (M.out.trans m1)
    clear m1
    go_wp2
    go_ret2
    exact ⟨rfl, M.out⟩

end Go.Proofs.Ytgoccfjmghhaoaa
