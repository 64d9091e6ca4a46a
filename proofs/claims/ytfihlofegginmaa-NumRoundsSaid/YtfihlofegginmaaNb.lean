/-
  num: abs, Gcd; the reference's abs, Gcd.
-/
import Derived.Test.YtfihlofegginmaaNa
set_option linter.unusedVariables false
set_option linter.unusedSimpArgs false
namespace Go.Proofs.Ytfihlofegginmaa
open Go.RowKit

theorem numAbs_any (a : Int) (h : -9223372036854775808 < a ∧ a ≤ 9223372036854775807) (w : World) : Calls Try.prog 34 #[.int .i64 a] w fun e w' => e = .returned (.int .i64 (absN a)) ∧ w = w' := by
  have e1 : IntKind.i64.wrap (-a) = -a := IntWalk.i64_in _ (by omega)
  go_enter Try.func34, Try.ntmps34
  go_wp2
  all_goals
    go_ret
    exact ⟨ret_int (by simp only [absN]; omega), rfl⟩

theorem refAbs_any (a : Int) (h : -9223372036854775808 < a) (w : World) : Calls Try.prog 38 #[.int .i64 a] w fun e w' => e = .returned (.int .i64 (absN a)) ∧ w = w' := by
  by_cases h0 : a < 0
  · have e1 : IntKind.i64.wrap (-a) = -a := IntWalk.i64_in _ (by omega)
    have H := Lib.hid (absN_neg h0)
    clear h
    go_enter Try.func38, Try.ntmps38
    go_wp2
    go_ret
    exact ⟨ret_int H.out.symm, rfl⟩
  · have H := Lib.hid (absN_pos (a := a) (by omega))
    clear h
    go_enter Try.func38, Try.ntmps38
    go_wp2
    go_ret
    exact ⟨ret_int H.out.symm, rfl⟩
theorem lawAbs_any (a : Int) (h : -9223372036854775808 < a ∧ a ≤ 9223372036854775807) (w : World) : Calls Try.prog 19 #[.int .i64 a] w fun e w' => e = .returned (.int .i64 (absN a)) ∧ w = w' := by
  by_cases h0 : a < 0
  · have e1 : IntKind.i64.wrap (-a) = -a := IntWalk.i64_in _ (by omega)
    have H := Lib.hid (absN_neg h0)
    clear h
    go_enter Try.func19, Try.ntmps19
    go_wp2
    go_ret
    exact ⟨ret_int H.out.symm, rfl⟩
  · have H := Lib.hid (absN_pos (a := a) (by omega))
    clear h
    go_enter Try.func19, Try.ntmps19
    go_wp2
    go_ret
    exact ⟨ret_int H.out.symm, rfl⟩

def gcdN (a b : Int) : Int × Int := if inB a && inB b then (((Nat.gcd a.natAbs b.natAbs : Nat) : Int), 0) else (0, 1)
theorem gcdN_bad {a b : Int} (h : (inB a && inB b) = false) : gcdN a b = (0, 1) := by simp [gcdN, h]
theorem gcdN_ok {a b : Int} (h : (inB a && inB b) = true) : gcdN a b = (((Nat.gcd a.natAbs b.natAbs : Nat) : Int), 0) := by simp [gcdN, h]

set_option maxHeartbeats 400000 in
theorem numGcd_any (a b : Int) (w : World) : Calls Try.prog 20 #[.int .i64 a, .int .i64 b] w fun e w' => e = .returned (.tuple #[.int .i64 (gcdN a b).1, .int .i64 (gcdN a b).2]) ∧ Mod NoBlock w w' := by
  cases h : (inB a && inB b)
  · rw [gcdN_bad h]
    have h' := Lib.hid h
    clear h
    go_enter Try.func20, Try.ntmps20
    go_wp2_with (go_at_call 32; refine (numIn2 a b _ _).mono ?_; rintro e w9 ⟨rfl, hmc⟩; rw [h'.out])
    go_ret2
    exact ⟨rfl, hmc⟩
  · rw [gcdN_ok h]
    obtain ⟨a1, a2, b1, b2⟩ := in_both h
    have h' := Lib.hid h
    clear h
    go_enter Try.func20, Try.ntmps20
    go_wp2_with (first
      | (go_at_call 32; refine (numIn2 a b _ _).mono ?_; rintro e w9 ⟨rfl, hmc⟩; rw [h'.out]; have Hmc := Lib.hid hmc)
      | (go_at_call 34; refine (numAbs_any _ (by omega) _).mono ?_; rintro e w8 ⟨rfl, rfl⟩))
    go_loopw [6, 7] (fun x y wr => ∃ X Y : Nat, x = .int .i64 X ∧ y = .int .i64 Y ∧ Nat.gcd X Y = Nat.gcd a.natAbs b.natAbs ∧ X ≤ 1125899906842624 ∧ Y ≤ 1125899906842624 ∧ Mod NoBlock w9 wr) (fun _ y _ => (intOf y).toNat)
    case atStart => exact ⟨a.natAbs, b.natAbs, rfl, rfl, rfl, by omega, by omega, Mod.refl _ _⟩
    case round =>
      obtain ⟨X, Y, rfl, rfl, hg, hX, hY, hmod⟩ := hrel
      have Hg := Lib.hid hg
      have Hmod := Lib.hid hmod
      clear hg hmod
      by_cases hy : Y = 0
      · subst hy
        go_wp2
        go_ret2
        refine ⟨?_, Hmc.out.trans Hmod.out⟩
        have := Hg.out
        rw [Nat.gcd_zero_right] at this
        rw [this]; rfl
      · have hy0 : ((Y : Int) == 0) = false := by rw [beq_eq_false_iff_ne]; omega
        have e1 : (X : Int).tmod Y = ((X % Y : Nat) : Int) := by rw [Int.tmod_eq_emod_of_nonneg (by omega)]; simp
        have e2 : (X : Int) % Y = ((X % Y : Nat) : Int) := by simp
        have hlt : X % Y < Y := Nat.mod_lt _ (by omega)
        have hg2 : Nat.gcd Y (X % Y) = Nat.gcd X Y := by rw [Nat.gcd_comm X Y, Nat.gcd_rec Y X, Nat.gcd_comm]
        generalize X % Y = r at e1 e2 hlt hg2
        have Hg2 := Lib.hid hg2
        clear hg2
        go_wp2
        go_quiet (fail)
        go_wp2
        exact ⟨⟨Y, r, rfl, rfl, Hg2.out.trans Hg.out, by omega, by omega, Hmod.out.drewN _⟩, by simp [intOf]; omega⟩

set_option maxHeartbeats 400000 in
theorem refGcd_any (a b : Int) (w : World) : Calls Try.prog 21 #[.int .i64 a, .int .i64 b] w fun e w' => e = .returned (.tuple #[.int .i64 (gcdN a b).1, .int .i64 (gcdN a b).2]) ∧ Mod NoBlock w w' := by
  cases ha : inB a
  · rw [gcdN_bad (by simp [ha])]
    have h' := Lib.hid ha
    clear ha
    go_enter Try.func21, Try.ntmps21
    go_wp2_with (go_at_call 18; refine (refIn_any a _).mono ?_; rintro e w9 ⟨rfl, rfl⟩; rw [h'.out])
    go_ret2
    exact ⟨rfl, Mod.refl _ _⟩
  cases hb : inB b
  · rw [gcdN_bad (by simp [hb])]
    have h' := Lib.hid ha
    have h2' := Lib.hid hb
    clear ha hb
    go_enter Try.func21, Try.ntmps21
    go_wp2_with (go_at_call 18; refine (refIn_any _ _).mono ?_; rintro e w9 ⟨rfl, rfl⟩; first | rw [h'.out] | rw [h2'.out])
    go_ret2
    exact ⟨rfl, Mod.refl _ _⟩
  · have h : (inB a && inB b) = true := by simp [ha, hb]
    rw [gcdN_ok h]
    obtain ⟨a1, a2, b1, b2⟩ := in_both h
    have h' := Lib.hid ha
    have h2' := Lib.hid hb
    clear h ha hb
    go_enter Try.func21, Try.ntmps21
    go_wp2_with (first
      | (go_at_call 18; refine (refIn_any _ _).mono ?_; rintro e w9 ⟨rfl, rfl⟩; first | rw [h'.out] | rw [h2'.out])
      | (go_at_call 38; refine (refAbs_any _ (by omega) _).mono ?_; rintro e w8 ⟨rfl, rfl⟩))
    go_loopw [0, 1] (fun x y wr => ∃ X Y : Nat, x = .int .i64 X ∧ y = .int .i64 Y ∧ Nat.gcd X Y = Nat.gcd a.natAbs b.natAbs ∧ X ≤ 1125899906842624 ∧ Y ≤ 1125899906842624 ∧ Mod NoBlock w wr) (fun _ y _ => (intOf y).toNat)
    case atStart => exact ⟨a.natAbs, b.natAbs, rfl, rfl, rfl, by omega, by omega, Mod.refl _ _⟩
    case round =>
      obtain ⟨X, Y, rfl, rfl, hg, hX, hY, hmod⟩ := hrel
      have Hg := Lib.hid hg
      have Hmod := Lib.hid hmod
      clear hg hmod
      by_cases hy : Y = 0
      · subst hy
        go_wp2
        go_ret2
        refine ⟨?_, Hmod.out⟩
        have := Hg.out
        rw [Nat.gcd_zero_right] at this
        rw [this]; rfl
      · have hy0 : (0 : Int) < (Y : Int) := by omega
        have e1 : (X : Int).tmod Y = ((X % Y : Nat) : Int) := by rw [Int.tmod_eq_emod_of_nonneg (by omega)]; simp
        have e2 : (X : Int) % Y = ((X % Y : Nat) : Int) := by simp
        have hlt : X % Y < Y := Nat.mod_lt _ (by omega)
        have hg2 : Nat.gcd Y (X % Y) = Nat.gcd X Y := by rw [Nat.gcd_comm X Y, Nat.gcd_rec Y X, Nat.gcd_comm]
        generalize X % Y = r at e1 e2 hlt hg2
        have Hg2 := Lib.hid hg2
        clear hg2
        go_wp2
        go_quiet (fail)
        go_wp2
        exact ⟨⟨Y, r, rfl, rfl, Hg2.out.trans Hg.out, by omega, by omega, Hmod.out.drewN _⟩, by simp [intOf]; omega⟩

end Go.Proofs.Ytfihlofegginmaa
