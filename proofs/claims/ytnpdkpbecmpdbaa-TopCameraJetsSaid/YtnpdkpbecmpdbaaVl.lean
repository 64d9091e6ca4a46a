/-
  material.Total, Purity, Valid; the reference's.
-/
import Derived.Test.YtnpdkpbecmpdbaaVk
set_option linter.unusedVariables false
set_option linter.unusedSimpArgs false
namespace Go.Proofs.Ytnpdkpbecmpdbaa
open Go.RowKit

/-- The total of a mix, or the error. -/
def totL (xs : List Int) : Int × Int := if faultL xs = 0 then (xs.sum, 0) else (0, faultL xs)
theorem totL_ok {xs : List Int} (h : faultL xs = 0) : totL xs = (xs.sum, 0) := if_pos h
theorem totL_bad {xs : List Int} (h : ¬ faultL xs = 0) : totL xs = (0, faultL xs) := if_neg h

theorem sum_take_bound {xs : List Int} {M : Int} (h : ∀ k, k < xs.length → 0 ≤ ix xs k ∧ ix xs k ≤ M) : ∀ k, k ≤ xs.length → 0 ≤ (xs.take k).sum ∧ (xs.take k).sum ≤ (k : Int) * M
  | 0, _ => by simp
  | k + 1, hk => by
    obtain ⟨h1, h2⟩ := sum_take_bound h k (by omega)
    obtain ⟨h3, h4⟩ := h k (by omega)
    have e : ((k + 1 : Nat) : Int) * M = (k : Int) * M + M := by rw [Int.natCast_add, Int.add_mul]; simp
    rw [take_ix (by omega), List.sum_append, e]
    simp
    omega
theorem sum_bound {xs : List Int} (h : faultL xs = 0) : 0 ≤ xs.sum ∧ xs.sum ≤ 17179869184 := by
  obtain ⟨hl, hg⟩ := ok_of_fault h
  have := sum_take_bound hg xs.length (Nat.le_refl _)
  rw [List.take_length] at this
  omega

set_option maxHeartbeats 800000 in
theorem matTotal_any (a : Option Addr) (c : Nat) (xs : List Int) (D : Nat → Prop) (w : World) (hx : Ints D w a xs) :
    Calls Try.prog 27 #[.slice a xs.length c] w fun e w' => e = .returned (.tuple #[.int .i64 (totL xs).1, .int .i64 (totL xs).2]) ∧ Mod NoBlock w w' := by
  have Hc := Lib.hid (check_n1 a xs.length c xs D w rfl hx)
  by_cases hf : faultL xs = 0
  · rw [totL_ok hf]
    obtain ⟨hl, hg⟩ := ok_of_fault hf
    have hb := sum_take_bound hg
    obtain ⟨lx, b, off, ha, hcl⟩ := (hx.alloc (.cells #[.slice a xs.length c] 36)).open
    have Ha := Lib.hid ha
    have Hcl := Lib.hid hcl
    have Hb := Lib.hid hb
    have Hg := Lib.hid hg
    have Hf := Lib.hid hf
    clear hx hf hg hb ha hcl
    go_enter Try.func27, Try.ntmps27
    go_wp2_with (go_at_call 46; refine (Hc.out _).mono ?_; rintro e w9 ⟨rfl, rfl⟩; rw [Hf.out])
    generalize hw0 : w.alloc (.cells #[.slice a xs.length c] 36) = w0 at Hcl ⊢
    have Hm := Lib.hid (show Mod NoBlock w w0 by rw [← hw0]; exact (Mod.refl _ _).alloc _)
    clear hw0 Hc
    go_loop [5, 16] (fun s i => ∃ (k : Nat) (S : Int), k ≤ xs.length ∧ i = .int .i64 k ∧ s = .int .i64 S ∧ S = (xs.take k).sum ∧ 0 ≤ S ∧ S ≤ 17179869184) (fun _ i => xs.length - (intOf i).toNat)
    case atStart => exact ⟨0, 0, by omega, rfl, rfl, by simp, by omega, by omega⟩
    case round =>
      obtain ⟨k, S, hk, rfl, rfl, hS, s1, s2⟩ := hrel
      have HS := Lib.hid hS
      clear hS
      by_cases hlt : k < xs.length
      · obtain rfl := Ha.out (by intro e; subst e; simp at hlt)
        have h1 := Hcl.out k hlt
        have hb1 := Hb.out (k + 1) (by omega)
        have hg1 := Hg.out k hlt
        rw [take_ix hlt, List.sum_append, ← HS.out] at hb1
        simp at hb1
        have HT := Lib.hid (show (xs.take (k + 1)).sum = S + ix xs k by rw [take_ix hlt, List.sum_append, ← HS.out]; simp)
        generalize ix xs k = v at *
        obtain ⟨g1, g2⟩ := hg1
        have hb2 : S + v ≤ 17179869184 := by omega
        have hb3 : 0 ≤ S + v := by omega
        clear hb1
        go_wp2
        exact ⟨⟨k + 1, S + v, by omega, by go_num, rfl, HT.out.symm, hb3, hb2⟩, by simp [intOf]; omega⟩
      · go_wp2
        go_ret2
        have := HS.out
        rw [List.take_of_length_le (by omega)] at this
        rw [this]
        exact ⟨rfl, Hm.out⟩
  · rw [totL_bad hf]
    have hne : (faultL xs != 0) = true := by simpa using hf
    clear hx hf
    go_enter Try.func27, Try.ntmps27
    go_wp2_with (go_at_call 46; refine (Hc.out _).mono ?_; rintro e w9 ⟨rfl, rfl⟩)
    go_ret2
    exact ⟨rfl, (Mod.refl _ _).alloc _⟩

/-- The purity of a material in a mix, or the error. -/
def purL (xs : List Int) (i : Int) : Int × Int :=
  if faultL xs = 0 then if i < 0 ∨ (xs.length : Int) ≤ i then (0, 1) else if xs.sum = 0 then (0, 10) else (ix xs i.toNat * 1000 / xs.sum, 0) else (0, faultL xs)
theorem purL_bad {xs : List Int} {i : Int} (h : ¬ faultL xs = 0) : purL xs i = (0, faultL xs) := if_neg h
theorem purL_range {xs : List Int} {i : Int} (h : faultL xs = 0) (h2 : i < 0 ∨ (xs.length : Int) ≤ i) : purL xs i = (0, 1) := by unfold purL; rw [if_pos h, if_pos h2]
theorem purL_empty {xs : List Int} {i : Int} (h : faultL xs = 0) (h2 : ¬ (i < 0 ∨ (xs.length : Int) ≤ i)) (h3 : xs.sum = 0) : purL xs i = (0, 10) := by unfold purL; rw [if_pos h, if_neg h2, if_pos h3]
theorem purL_ok {xs : List Int} {i : Int} (h : faultL xs = 0) (h2 : ¬ (i < 0 ∨ (xs.length : Int) ≤ i)) (h3 : ¬ xs.sum = 0) : purL xs i = (ix xs i.toNat * 1000 / xs.sum, 0) := by unfold purL; rw [if_pos h, if_neg h2, if_neg h3]

set_option maxHeartbeats 800000 in
theorem matPurity_any (a : Option Addr) (c : Nat) (xs : List Int) (i : Int) (D : Nat → Prop) (w : World) (hx : Ints D w a xs) :
    Calls Try.prog 40 #[.slice a xs.length c, .int .i64 i] w fun e w' => e = .returned (.tuple #[.int .i64 (purL xs i).1, .int .i64 (purL xs i).2]) ∧ Mod NoBlock w w' := by
  have Hx := Lib.hid hx
  have hlx := hx.open.1
  clear hx
  by_cases hf : faultL xs = 0
  · have Ht := Lib.hid (totL_ok hf)
    obtain ⟨s1, s2⟩ := sum_bound hf
    obtain ⟨hl, hg⟩ := ok_of_fault hf
    by_cases h0 : i < 0
    · rw [purL_range hf (.inl h0)]
      clear hf hg
      go_enter Try.func40, Try.ntmps40
      go_wp2_with (go_at_call 27; refine (matTotal_any _ _ _ _ _ Hx.out).mono ?_; rintro e w9 ⟨rfl, m⟩; rw [Ht.out]; have M := Lib.hid m; clear m)
      go_ret2
      exact ⟨rfl, M.out⟩
    by_cases h1 : (xs.length : Int) ≤ i
    · rw [purL_range hf (.inr h1)]
      clear hf hg
      go_enter Try.func40, Try.ntmps40
      go_wp2_with (go_at_call 27; refine (matTotal_any _ _ _ _ _ Hx.out).mono ?_; rintro e w9 ⟨rfl, m⟩; rw [Ht.out]; have M := Lib.hid m; clear m)
      go_ret2
      exact ⟨rfl, M.out⟩
    have h2 : ¬ (i < 0 ∨ (xs.length : Int) ≤ i) := by omega
    by_cases h3 : xs.sum = 0
    · rw [purL_empty hf h2 h3]
      rw [h3] at Ht
      clear hf hg h3 s1 s2
      go_enter Try.func40, Try.ntmps40
      go_wp2_with (go_at_call 27; refine (matTotal_any _ _ _ _ _ Hx.out).mono ?_; rintro e w9 ⟨rfl, m⟩; rw [Ht.out]; have M := Lib.hid m; clear m)
      go_ret2
      exact ⟨rfl, M.out⟩
    · rw [purL_ok hf h2 h3]
      obtain ⟨k, rfl⟩ : ∃ k : Nat, i = k := ⟨i.toNat, by omega⟩
      obtain ⟨_, b, off, ha, hcl⟩ := Hx.out.open
      have hk : k < xs.length := by omega
      have hcell := hcl k hk
      obtain rfl := ha (by intro e; subst e; simp at hk)
      obtain ⟨g1, g2⟩ := hg k hk
      generalize xs.sum = S at *
      have z : (S == 0) = false := by rw [beq_eq_false_iff_ne]; exact h3
      have z2 : (0 : Int) < S := by omega
      have Hcell := Lib.hid hcell
      have e2 : ((k : Int)).toNat = k := by simp
      rw [e2]
      generalize ix xs k = v at *
      clear hf hg h3 ha hcl hcell
      go_enter Try.func40, Try.ntmps40
      go_wp2_with (go_at_call 27; refine (matTotal_any _ _ _ _ _ Hx.out).mono ?_; rintro e w9 ⟨rfl, m⟩; rw [Ht.out]; have M := Lib.hid m; have hc9 := m.cell Hcell.out (fun h => h); clear m)
      go_ret2
      exact ⟨rfl, M.out⟩
  · rw [purL_bad hf]
    have Ht := Lib.hid (totL_bad hf)
    have hne : (faultL xs != 0) = true := by simpa using hf
    clear hf
    go_enter Try.func40, Try.ntmps40
    go_wp2_with (go_at_call 27; refine (matTotal_any _ _ _ _ _ Hx.out).mono ?_; rintro e w9 ⟨rfl, m⟩; rw [Ht.out]; have M := Lib.hid m; clear m)
    go_ret2
    exact ⟨rfl, M.out⟩

end Go.Proofs.Ytnpdkpbecmpdbaa
