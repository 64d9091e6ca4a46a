/-
  num.Sum and the reference's Sum.
-/
import Derived.Test.YtnpdkpbecmpdbaaN1
set_option linter.unusedVariables false
set_option linter.unusedSimpArgs false
namespace Go.Proofs.Ytnpdkpbecmpdbaa
open Go.RowKit

def sumN (l : List Int) : Int × Int := if l.all inB then chkN l.sum else (0, 1)
theorem sumN_bad {l : List Int} (h : l.all inB = false) : sumN l = (0, 1) := by simp [sumN, h]
theorem sumN_ok {l : List Int} (h : l.all inB = true) : sumN l = chkN l.sum := by simp [sumN, h]

theorem land_nat (x : Int) : ((BitVec.ofInt 64 x &&& BitVec.ofInt 64 33554431).toNat : Int) = x % 33554432 := by
  rw [BitVec.toNat_and, BitVec.toNat_ofInt, BitVec.toNat_ofInt]
  rw [show ((33554431 : Int) % ((2 ^ 64 : Nat) : Int)).toNat = 2 ^ 25 - 1 from rfl, Nat.and_two_pow_sub_one_eq_mod]
  omega

theorem land_mask (x : Int) : bits BinOp.and IntKind.i64 x 33554431 = x % 33554432 := by
  have h := land_nat x
  have h2 : IntKind.i64.wrap (x % 33554432) = x % 33554432 := IntWalk.i64_in _ (by omega)
  rw [← h] at h2
  rw [← h]
  exact h2

set_option maxRecDepth 100000 in
set_option maxHeartbeats 800000 in
theorem numSum_any (a : Option Addr) (c : Nat) (xs : List Int) (D : Nat → Prop) (w : World) (hx : Ints D w a xs) (hn : xs.length ≤ 20000) :
    Calls Try.prog 65 #[.slice a xs.length c] w fun e w' => e = .returned (.tuple #[.int .i64 (sumN xs).1, .int .i64 (sumN xs).2]) ∧ Mod NoBlock w w' := by
  obtain ⟨hl, b, off, ha, hc⟩ := hx.open
  have HX := Lib.hid hx
  clear hx
  have Ha := Lib.hid ha
  have Hc := Lib.hid hc
  clear ha hc
  go_enter Try.func65, Try.ntmps65
  go_wp2
  go_loopw [4, 5, 10] (fun h l i wr => ∃ (k : Nat) (H L : Int), k ≤ xs.length ∧ i = .int .i64 k ∧ h = .int .i64 H ∧ l = .int .i64 L ∧ Mod NoBlock w wr ∧ (xs.take k).all inB = true ∧ H * 33554432 + L = (xs.take k).sum ∧ 0 ≤ L ∧ L ≤ (k : Int) * 33554431 ∧ -(k : Int) * 33554432 ≤ H ∧ H ≤ (k : Int) * 33554432) (fun _ _ i _ => xs.length - (intOf i).toNat)
  case atStart => exact ⟨0, 0, 0, by omega, rfl, rfl, rfl, Mod.refl _ _, by simp, by simp, by omega, by omega, by omega, by omega⟩
  case round =>
    obtain ⟨k, H, L, hk, rfl, rfl, rfl, hm, ht, hs, l1, l2, h1, h2⟩ := hrel
    have Hm := Lib.hid hm
    have Ht := Lib.hid ht
    have Hs := Lib.hid hs
    clear hm ht hs
    by_cases hkn : k < xs.length
    · obtain rfl := Ha.out (by intro e; subst e; simp at hkn)
      have h1c := Hm.out.cell (Hc.out k hkn) (fun h => h)
      have q1 : (0 : Int) ≤ (k : Int) := by omega
      have q2 : (k : Int) < (xs.length : Int) := by omega
      generalize hv : ix xs k = v at h1c
      have Hv := Lib.hid hv
      clear hv
      by_cases hin : inB v = true
      · obtain ⟨i1, i2⟩ := inB_true.1 hin
        have Hin := Lib.hid hin
        have e1 := land_mask v
        have m1 : 0 ≤ v % 33554432 := by omega
        have m2 : v % 33554432 ≤ 33554431 := by omega
        have hvm := Int.mul_ediv_add_emod v 33554432
        generalize v % 33554432 = m at e1 m1 m2 hvm
        have hd1 : -33554432 ≤ v / 33554432 := by omega
        have hd2 : v / 33554432 ≤ 33554432 := by omega
        have Hvm := Lib.hid hvm
        clear hin hvm
        go_wp2_with (go_at_call 70; refine (numIn1 v _ _).mono ?_; rintro e w9 ⟨rfl, hmc⟩; rw [Hin.out]; have Hmc := Lib.hid hmc; clear hmc)
        refine ⟨⟨k + 1, H + v / 33554432, L + m, by omega, by go_num, by trivial, by trivial, Hm.out.trans Hmc.out, ?_, ?_, by omega, by omega, by omega, by omega⟩, by simp [intOf]; omega⟩
        · rw [take_ix hkn, List.all_append, Ht.out, Hv.out]
          simp [Hin.out]
        · rw [take_ix hkn, List.sum_append, ← Hs.out, Hv.out]
          have := Hvm.out
          simp
          omega
      · have hin' : inB v = false := by simpa using hin
        have hall : xs.all inB = false := by
          rw [List.all_eq_false]
          exact ⟨xs[k], List.getElem_mem hkn, by rw [← ix_eq hkn, Hv.out]; simpa using hin'⟩
        have Hall := Lib.hid hall
        have Hin := Lib.hid hin'
        clear hall hin hin'
        go_wp2_with (go_at_call 70; refine (numIn1 v _ _).mono ?_; rintro e w9 ⟨rfl, hmc⟩; rw [Hin.out]; have Hmc := Lib.hid hmc; clear hmc)
        go_ret2
        rw [sumN_bad Hall.out]
        exact ⟨rfl, Hm.out.trans Hmc.out⟩
    · have htk : xs.take k = xs := List.take_of_length_le (by omega)
      have ht := Ht.out
      have hs := Hs.out
      rw [htk] at ht hs
      have E := Lib.hid (sumN_ok ht)
      have m1 : 0 ≤ L % 33554432 := by omega
      have m2 : L % 33554432 ≤ 33554431 := by omega
      have hvm := Int.mul_ediv_add_emod L 33554432
      have e1 := land_mask L
      have d1 : 0 ≤ L / 33554432 := by omega
      have d2 : L / 33554432 ≤ 20000 := by omega
      have hH : (H + L / 33554432) * 33554432 + L % 33554432 = xs.sum := by omega
      generalize L % 33554432 = m at *
      have k1 : -671088640000 ≤ H := by omega
      have k2 : H ≤ 671088640000 := by omega
      have HH := Lib.hid hH
      by_cases hov : H + L / 33554432 < -67108864 ∨ 67108864 < H + L / 33554432
      · have Eb := Lib.hid (show chkN xs.sum = (0, 2) from chkN_bad (inB_false.2 (by omega)))
        clear hvm hH ht hs htk
        rcases hov with hov | hov
        all_goals
          go_wp2
          go_ret2
          rw [E.out, Eb.out]
          exact ⟨rfl, Hm.out⟩
      · clear hvm hH ht hs htk
        go_wp2_with fail
        rw [HH.out]
        refine (checked_any _ _).mono ?_; rintro e w8 ⟨rfl, hmd⟩
        go_wp2
        go_ret2
        rw [E.out]
        exact ⟨rfl, Hm.out.trans hmd⟩

theorem tmod_cases (v : Int) : ∃ t m q : Int, v.tmod 33554432 = t ∧ ((t < 0 ∧ t + 33554432 = m) ∨ (0 ≤ t ∧ t = m)) ∧ q * 33554432 + m = v ∧ 0 ≤ m ∧ m ≤ 33554431 ∧ (v - m).tdiv 33554432 = q ∧ -33554432 < t ∧ t < 33554432 := by
  have hq : (v - v % 33554432).tdiv 33554432 = v / 33554432 := by
    rw [show v - v % 33554432 = v / 33554432 * 33554432 by omega]
    exact Int.mul_tdiv_cancel _ (by omega)
  by_cases hv : 0 ≤ v
  · have ht : v.tmod 33554432 = v % 33554432 := Int.tmod_eq_emod_of_nonneg hv
    exact ⟨_, v % 33554432, v / 33554432, rfl, .inr ⟨by omega, ht⟩, by omega, by omega, by omega, hq, by omega, by omega⟩
  · obtain ⟨x, rfl⟩ : ∃ x : Int, v = -x := ⟨-v, by omega⟩
    have ht : (-x).tmod 33554432 = -(x % 33554432) := by rw [Int.neg_tmod, Int.tmod_eq_emod_of_nonneg (by omega)]
    by_cases h0 : x % 33554432 = 0
    · exact ⟨_, (-x) % 33554432, (-x) / 33554432, rfl, .inr ⟨by omega, by omega⟩, by omega, by omega, by omega, hq, by omega, by omega⟩
    · exact ⟨_, (-x) % 33554432, (-x) / 33554432, rfl, .inl ⟨by omega, by omega⟩, by omega, by omega, by omega, hq, by omega, by omega⟩

theorem chk_over_sum {H L S : Int} (h : H * 33554432 + L = S) (h0 : 0 ≤ L) (h1 : L < 33554432) : (chkN S = if H < -33554432 ∨ 33554432 < H ∨ (H = 33554432 ∧ 0 < L) then (0, 2) else (S, 0)) := by
  split
  · exact chkN_bad (inB_false.2 (by omega))
  · exact chkN_ok (inB_true.2 (by omega))

end Go.Proofs.Ytnpdkpbecmpdbaa
