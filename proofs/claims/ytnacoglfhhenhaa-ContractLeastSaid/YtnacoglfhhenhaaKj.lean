/-
  contract: the reference's Ints.
-/
import Derived.Test.YtnacoglfhhenhaaKi
import Derived.Deep.QuietTactic
import Derived.BigQuiet
set_option linter.unusedVariables false
set_option linter.unusedSimpArgs false
namespace Go.Proofs.Ytnacoglfhhenhaa
open Go.RowKit

theorem take_eq_stepK {xs ys : List Int} {k : Nat} (hx : k < xs.length) (hy : k < ys.length) (h : xs.take k = ys.take k) (e : ix xs k = ix ys k) : xs.take (k + 1) = ys.take (k + 1) := by
  rw [List.take_succ_eq_append_getElem hx, List.take_succ_eq_append_getElem hy, h]
  simp only [ix_eq hx, ix_eq hy] at e
  rw [e]
set_option maxHeartbeats 400000 in
theorem ints52_any (a1 a2 : Option Addr) (c1 c2 : Nat) (xs ys : List Int) (D1 D2 : Nat → Prop) (w : World) (hx : Ints D1 w a1 xs) (hy : Ints D2 w a2 ys) :
    Calls Try.prog 18 #[.slice a1 xs.length c1, .slice a2 ys.length c2] w fun e w' => e = .returned (.bool (decide (xs = ys))) ∧ Drawn w w' := by
  obtain ⟨lx, b1, o1, hb1, hc1⟩ := hx.open
  obtain ⟨ly, b2, o2, hb2, hc2⟩ := hy.open
  clear hx hy
  by_cases hl : xs.length = ys.length
  · have hl1 : xs.length ≤ ys.length := by omega
    have hl2 : ys.length ≤ xs.length := by omega
    have hl' := Lib.hid hl
    clear hl
    go_enter Try.func18, Try.ntmps18
    go_wp2
    go_loopw [13] (fun i wr => ∃ k : Nat, k ≤ xs.length ∧ i = .int .i64 k ∧ xs.take k = ys.take k ∧ ∃ n, wr = w.drewN n) (fun i _ => xs.length - (intOf i).toNat)
    case atStart => exact ⟨0, by omega, rfl, rfl, 0, rfl⟩
    case round =>
      obtain ⟨k, hk, rfl, ht, n, rfl⟩ := hrel
      have ht' := Lib.hid ht
      clear ht
      by_cases hlt : k < xs.length
      · have h1 := hc1 k hlt
        have h2 := hc2 k (by omega)
        have q1 : (k : Int) < (xs.length : Int) := by omega
        have q2 : (k : Int) < (ys.length : Int) := by omega
        obtain rfl := hb1 (by intro h; simp [h] at hlt)
        obtain rfl := hb2 (by intro h; rw [h] at hl1; simp at hl1; simp [hl1] at hlt)
        clear hb1 hb2 hc1 hc2
        by_cases he : ix xs k = ix ys k
        · have hd : (ix xs k != ix ys k) = false := by simpa using he
          have he' := Lib.hid he
          clear he
          go_wp2
          go_quiet (fail)
          go_wp2
          exact ⟨⟨k + 1, by omega, by go_num, take_eq_stepK hlt (by omega) ht'.out he'.out, _, rfl⟩, by simp [intOf]; omega⟩
        · have hd : (ix xs k != ix ys k) = true := by simpa using he
          have he' := Lib.hid he
          clear he
          go_wp2
          go_quiet (fail)
          go_wp2
          go_ret
          refine ⟨ret_bool ?_, (Drawn.mk _ _).trans (Drawn.mk _ _)⟩
          exact (decide_eq_false fun h => he'.out (by rw [h])).symm
      · go_wp2
        go_ret
        refine ⟨ret_bool ?_, Drawn.mk _ _⟩
        have hk' : k = xs.length := by omega
        rw [hk'] at ht'
        have h3 := ht'.out
        rw [List.take_of_length_le (by omega), List.take_of_length_le (by omega)] at h3
        exact (decide_eq_true h3).symm
  · have hd : ((xs.length : Int) != (ys.length : Int)) = true := bne_iff_ne.2 (by omega)
    go_enter Try.func18, Try.ntmps18
    go_wp2
    go_ret
    exact ⟨ret_bool (decide_eq_false fun h => hl (by rw [h])).symm, Drawn.refl _⟩

end Go.Proofs.Ytnacoglfhhenhaa
