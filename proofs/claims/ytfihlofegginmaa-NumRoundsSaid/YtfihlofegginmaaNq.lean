/-
  The laws' own fixed example (awake), and what two calls of one answer give.
-/
import Derived.Test.YtfihlofegginmaaNo
import Derived.Test.YtfihlofegginmaaNj
set_option linter.unusedVariables false
set_option linter.unusedSimpArgs false
namespace Go.Proofs.Ytfihlofegginmaa
open Go.RowKit

section
variable {w : World} {x y : Int}
theorem numAdd_eq {a b : Int} (h : addN a b = (x, y)) : Calls Try.prog 26 #[.int .i64 a, .int .i64 b] w fun e w' => e = .returned (.tuple #[.int .i64 x, .int .i64 y]) ∧ Mod NoBlock w w' := by
  have := numAdd_any a b w; rw [h] at this; exact this
theorem numScale_eq {a b c m : Int} (h : scaleN a b c m = (x, y)) : Calls Try.prog 15 #[.int .i64 a, .int .i64 b, .int .i64 c, .int .i64 m] w fun e w' => e = .returned (.tuple #[.int .i64 x, .int .i64 y]) ∧ Mod NoBlock w w' := by
  have := numScale_any a b c m w; rw [h] at this; exact this
theorem numGcd_eq {a b : Int} (h : gcdN a b = (x, y)) : Calls Try.prog 20 #[.int .i64 a, .int .i64 b] w fun e w' => e = .returned (.tuple #[.int .i64 x, .int .i64 y]) ∧ Mod NoBlock w w' := by
  have := numGcd_any a b w; rw [h] at this; exact this
theorem numFormat_eq {a b : Int} {xs : List Int} (h : fmtN a b = (xs, y)) : Calls Try.prog 22 #[.int .i64 a, .int .i64 b] w fun e w' => e = .returned (.tuple #[.string (strOfNums xs), .int .i64 y]) ∧ Mod NoBlock w w' := by
  have := numFormat_any a b w; rw [h] at this; exact this
theorem numParse_eq {s : ByteArray} {b : Int} (hs : s.size ≤ maxLen) (h : ParseSpec s b (x, y)) : Calls Try.prog 24 #[.string s, .int .i64 b] w fun e w' => e = .returned (.tuple #[.int .i64 x, .int .i64 y]) ∧ Mod NoBlock w w' :=
  (numParse_any s b hs w).mono fun e w' ⟨r, h1, h2, h3⟩ => by rw [h1.unique h] at h2; exact ⟨h2, h3⟩
theorem numSum3 (t : TypeId) {a b c : Int} (h : sumN [a, b, c] = (x, y)) : Calls Try.prog 13 #[.slice (some ⟨w.heap.size, 0, Option.none⟩) 3 3] (w.alloc (.cells #[.int .i64 a, .int .i64 b, .int .i64 c] t)) fun e w' => e = .returned (.tuple #[.int .i64 x, .int .i64 y]) ∧ Mod NoBlock w w' :=
  (numSum_any _ 3 [a, b, c] (fun _ => True) _ (Ints.three _ _ _ _ _ _ trivial) (by simp)).mono fun e w' ⟨h1, h2⟩ => by rw [h] at h1; exact ⟨h1, ((Mod.refl _ _).alloc _).trans h2⟩
end

theorem parse_1230 : ParseSpec ⟨#[49, 50, 46, 51, 48]⟩ 2 (1230, 0) := by
  unfold ParseSpec
  rw [if_neg (by omega)]
  exact .inl ⟨⟨by decide, by decide⟩, rfl⟩
theorem parse_123 : ParseSpec ⟨#[49, 50, 46, 51]⟩ 2 (0, 3) := by
  unfold ParseSpec
  rw [if_neg (by omega)]
  refine .inr ⟨rfl, fun n hn => ?_⟩
  have h1 := hn.val
  have h2 : valI (bytesI ⟨#[49, 50, 46, 51]⟩) = 123 := by decide
  have h3 := fmt_minus n (2 : Int).toNat
  rw [← hn.bytes] at h3
  have h4 : ¬ (45 : Int) ∈ bytesI ⟨#[49, 50, 46, 51]⟩ := by decide
  have h5 : n = 123 := by
    have : ¬ n < 0 := fun h => h4 (h3.2 h)
    omega
  subst h5
  exact absurd hn.2 (by decide)

set_option maxRecDepth 100000 in
set_option maxHeartbeats 800000 in
theorem awake_any (w : World) : Calls Try.prog 12 #[] w fun e w' => e = .returned (.bool true) ∧ Mod NoBlock w w' := by
  go_enter Try.func12, Try.ntmps12
  go_wp2_with fail
  refine (numAdd_eq (x := 5) (y := 0) (by decide)).mono ?_; rintro e w1 ⟨rfl, m⟩; have M1 := Lib.hid m; clear m
  go_wp2_with fail
  refine (numAdd_eq (x := 0) (y := 2) (by decide)).mono ?_; rintro e w2 ⟨rfl, m⟩; have M2 := Lib.hid m; clear m
  go_wp2_with fail
  refine (numScale_eq (x := -4) (y := 0) (by decide)).mono ?_; rintro e w3 ⟨rfl, m⟩; have M3 := Lib.hid m; clear m
  go_wp2_with fail
  refine (numScale_eq (x := 2) (y := 0) (by decide)).mono ?_; rintro e w4 ⟨rfl, m⟩; have M4 := Lib.hid m; clear m
  go_wp2_with fail
  refine (numSum3 _ (x := 1125899906842624) (y := 0) (by decide)).mono ?_; rintro e w5 ⟨rfl, m⟩; have M5 := Lib.hid m; clear m
  go_wp2_with fail
  refine (numGcd_eq (x := 6) (y := 0) (by decide)).mono ?_; rintro e w6 ⟨rfl, m⟩; have M6 := Lib.hid m; clear m
  go_wp2_with fail
  refine (numFormat_eq (xs := [45, 48, 46, 48, 53]) (y := 0) (by decide)).mono ?_; rintro e w7 ⟨rfl, m⟩; have M7 := Lib.hid m; clear m
  go_wp2_with fail
  refine (numParse_eq (by decide) parse_1230).mono ?_; rintro e w8 ⟨rfl, m⟩; have M8 := Lib.hid m; clear m
  go_wp2_with fail
  refine (numParse_eq (by decide) parse_123).mono ?_; rintro e w9 ⟨rfl, m⟩; have M9 := Lib.hid m; clear m
  have hs : ((strOfNums [45, 48, 46, 48, 53]).toList == [45, 48, 46, 48, 53]) = true := by rw [ByteArray.toList_eq]; decide
  go_wp2
  go_ret
  exact ⟨rfl, M1.out.trans (M2.out.trans (M3.out.trans (M4.out.trans (M5.out.trans (M6.out.trans (M7.out.trans (M8.out.trans M9.out)))))))⟩

end Go.Proofs.Ytfihlofegginmaa
