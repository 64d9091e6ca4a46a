/-
  camera: share.Carry in memory; share.New.
-/
import Derived.Test.YtnpdkpbecmpdbaaCd
set_option linter.unusedVariables false
set_option linter.unusedSimpArgs false
namespace Go.Proofs.Ytnpdkpbecmpdbaa
open Go.RowKit

/-- The cells of a carry: the number of outputs, the rates, what is owed. -/
def carryF (rs os : List Int) (f : Nat → Value) : Prop :=
  f 0 = .int .i64 rs.length ∧ (∀ i, i < rs.length → f (1 + i) = .int .i64 (ix rs i)) ∧ (∀ i, i < rs.length → f (5 + i) = .int .i64 (ix os i))
/-- A carry lies in block g. -/
def CarryAt (w : World) (g : Nat) (rs os : List Int) : Prop := ∃ f, w.rowIs g 102 9 f ∧ carryF rs os f

set_option maxRecDepth 100000 in
set_option maxHeartbeats 1600000 in
theorem shareNew_any (a : Option Addr) (c : Nat) (l : List Int) (D : Nat → Prop) (w : World) (hx : Ints D w a l) (h0 : rowE l = 0) :
    Calls Try.prog 26 #[.slice a l.length c] w fun e w' => e = .returned (.tuple #[.pointer (some ⟨w.heap.size, 0, none⟩), .int .i64 0]) ∧ Mod NoBlock w w' ∧ CarryAt w' w.heap.size l (List.replicate l.length 0) := by
  obtain ⟨l1, l4, hr, hs⟩ := row_ok h0
  have HR := Lib.hid hr
  have HS0 := Lib.hid hs
  obtain ⟨_, b, off, ha, hcl⟩ := hx.open
  have Ha := Lib.hid ha
  have HX := Lib.hid hx
  have n1 : (1 : Int) ≤ l.length := by omega
  have n4 : (l.length : Int) ≤ 4 := by omega
  clear hx ha hcl h0 hr hs
  go_enter Try.func26, Try.ntmps26
  go_wp2
  have hrow0 := World.rowIs_alloc w #[.int .i64 l.length, .int .i64 0, .int .i64 0, .int .i64 0, .int .i64 0, .int .i64 0, .int .i64 0, .int .i64 0, .int .i64 0] 102 (fun i => if i = 0 then .int .i64 l.length else .int .i64 0) (fun i hi => by
    have hi : i < 9 := hi
    rcases (by omega : i = 0 ∨ i = 1 ∨ i = 2 ∨ i = 3 ∨ i = 4 ∨ i = 5 ∨ i = 6 ∨ i = 7 ∨ i = 8) with rfl | rfl | rfl | rfl | rfl | rfl | rfl | rfl | rfl <;> rfl)
  have Hrow0 := Lib.hid hrow0
  have HX1 := Lib.hid (HX.out.alloc (.cells #[.int .i64 l.length, .int .i64 0, .int .i64 0, .int .i64 0, .int .i64 0, .int .i64 0, .int .i64 0, .int .i64 0, .int .i64 0] 102))
  have M0 := Lib.hid ((Mod.refl NoBlock w).alloc (.cells #[.int .i64 l.length, .int .i64 0, .int .i64 0, .int .i64 0, .int .i64 0, .int .i64 0, .int .i64 0, .int .i64 0, .int .i64 0] 102))
  clear hrow0
  generalize w.alloc (.cells #[.int .i64 l.length, .int .i64 0, .int .i64 0, .int .i64 0, .int .i64 0, .int .i64 0, .int .i64 0, .int .i64 0, .int .i64 0] 102) = w0 at Hrow0 HX1 M0 ⊢
  go_loopw [5, 6, 7, 22] (fun s u v i wr => ∃ (k : Nat) (S : Int) (f : Nat → Value), k ≤ l.length ∧ i = .int .i64 k ∧ s = .int .i64 S ∧ S = (l.take k).sum ∧ 0 ≤ S ∧ S ≤ 1000 * k ∧ Mod NoBlock w wr ∧ wr.rowIs w.heap.size 102 9 f ∧ f 0 = .int .i64 l.length ∧ (∀ j, j < k → f (1 + j) = .int .i64 (ix l j)) ∧ ∀ j, j < 4 → f (5 + j) = .int .i64 0) (fun _ _ _ i _ => l.length - (intOf i).toNat)
  case atStart => exact ⟨0, 0, _, by omega, rfl, rfl, by simp, by omega, by omega, M0.out, Hrow0.out, rfl, fun j hj => absurd hj (by omega), fun j hj => if_neg (by omega)⟩
  case round =>
    obtain ⟨k, S, f, hk, rfl, rfl, hS, s1, s2, hm, hrow, hf0, hf1, hf2⟩ := hrel
    have HS := Lib.hid hS
    have M := Lib.hid hm
    have Hrow := Lib.hid hrow
    have F0 := Lib.hid hf0
    have F1 := Lib.hid hf1
    have F2 := Lib.hid hf2
    clear hS hm hrow hf0 hf1 hf2 Hrow0 HX1 M0
    obtain ⟨wo, rfl⟩ : ∃ wo : World, wo = wr := ⟨_, rfl⟩
    have HXw := Lib.hid (HX.out.frame M.out)
    obtain ⟨_, b', off', ha', hcl'⟩ := HXw.out.open
    by_cases hlt : k < l.length
    · have h1 := hcl' k hlt
      obtain rfl := ha' (by intro h; simp [h] at hlt)
      obtain ⟨r0, r1⟩ := HR.out k hlt
      have Hcl := Lib.hid hcl'
      clear hcl' ha'
      have HT := Lib.hid (show (l.take (k + 1)).sum = S + ix l k by rw [take_ix hlt, List.sum_append, ← HS.out]; simp)
      obtain ⟨v, hv⟩ : ∃ v, ix l k = v := ⟨_, rfl⟩
      rw [hv] at h1 r0 r1
      have Hv := Lib.hid hv
      clear hv
      have q1 : ¬ v < 0 := by omega
      have q2 : ¬ 1000 < v := by omega
      have k4 : (k : Int) < 4 := by omega
      have hc1 := Hrow.out.cell (i := 1 + k) (by omega)
      have hz1 := Hrow.out.frozen (1 + k)
      go_wp2
      refine ⟨⟨k + 1, S + v, _, by omega, by go_num, rfl, by rw [HT.out, Hv.out], by omega, by omega, M.out.setCell (p := ⟨w.heap.size, 1 + k, Option.none⟩) (.inr (Nat.le_refl _)) _, Hrow.out.set (1 + k) _, ?_, fun j hj => ?_, fun j hj => ?_⟩, by simp [intOf]; omega⟩
      · show (if 0 = 1 + k then _ else f 0) = _
        rw [if_neg (by omega)]; exact F0.out
      · show (if 1 + j = 1 + k then _ else f (1 + j)) = _
        by_cases hj2 : j = k
        · subst hj2; rw [if_pos rfl, Hv.out]
        · rw [if_neg (by omega)]; exact F1.out j (by omega)
      · show (if 5 + j = 1 + k then _ else f (5 + j)) = _
        rw [if_neg (by omega)]; exact F2.out j hj
    · obtain rfl : k = l.length := by omega
      have hs : S = 1000 := by have := HS.out; rw [List.take_length] at this; rw [this]; exact HS0.out
      subst hs
      clear hcl' ha'
      go_wp2
      go_ret2
      refine ⟨rfl, M.out, f, Hrow.out, F0.out, F1.out, fun j hj => ?_⟩
      rw [ix_replicate hj]
      exact F2.out j (by omega)

end Go.Proofs.Ytnpdkpbecmpdbaa
