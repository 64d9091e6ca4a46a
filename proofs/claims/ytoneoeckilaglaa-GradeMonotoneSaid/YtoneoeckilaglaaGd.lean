/-
  The reference's Of and Worth; what they compute.
-/
import Derived.Test.YtoneoeckilaglaaGc
import Derived.Test.YtoneoeckilaglaaVl
set_option linter.unusedVariables false
set_option linter.unusedSimpArgs false
namespace Go.Proofs.Ytoneoeckilaglaa
open Go.RowKit

/-- The first class that a purity reaches, counted from k on; -1 if there is none. -/
def classAt (l : List (Int × Int)) (p k : Int) : Int := match l with | [] => -1 | g :: r => if g.1 ≤ p then k else classAt r p (k + 1)
theorem classAt_bound (l : List (Int × Int)) (p k : Int) (hk : 0 ≤ k) : classAt l p k = -1 ∨ (k ≤ classAt l p k ∧ classAt l p k < k + l.length) := by
  induction l generalizing k with
  | nil => exact .inl rfl
  | cons g r ih =>
    unfold classAt
    split
    · exact .inr ⟨Int.le_refl _, by simp; omega⟩
    · rcases ih (k + 1) (by omega) with h | ⟨h1, h2⟩
      · exact .inl h
      · exact .inr ⟨by omega, by simp; omega⟩
/-- The class of a mix, or the error. -/
def ofG (l : List (Int × Int)) (xs : List Int) (i : Int) : Int × Int :=
  if chkG l = 0 then if (purL xs i).2 = 0 then if classAt l (purL xs i).1 0 = -1 then (0, 25) else (classAt l (purL xs i).1 0, 0) else (0, (purL xs i).2) else (0, chkG l)

set_option maxRecDepth 100000 in
set_option maxHeartbeats 800000 in
theorem refOf_any (a : Option Addr) (c : Nat) (l : List (Int × Int)) (a2 : Option Addr) (c2 : Nat) (xs : List Int) (i : Int) (D D2 : Nat → Prop) (w : World) (hx : Grs D w a l) (hy : Ints D2 w a2 xs) :
    Calls Try.prog 16 #[.slice a l.length c, .slice a2 xs.length c2, .int .i64 i] w fun e w' => e = .returned (.tuple #[.int .i64 (ofG l xs i).1, .int .i64 (ofG l xs i).2]) ∧ Mod NoBlock w w' := by
  have Hc := Lib.hid (refGrades_mod a c l D w hx)
  have Hx := Lib.hid hx
  have Hy := Lib.hid hy
  have hlx := hx.open.1
  clear hx hy
  by_cases h : chkG l = 0
  · have H := Lib.hid h
    by_cases hp : (purL xs i).2 = 0
    · have E := Lib.hid (show ofG l xs i = if classAt l (purL xs i).1 0 = -1 then (0, 25) else (classAt l (purL xs i).1 0, 0) by unfold ofG; rw [if_pos h, if_pos hp])
      obtain ⟨P, hPe⟩ : ∃ P, purL xs i = (P, 0) := ⟨(purL xs i).1, by rw [← hp]⟩
      rw [hPe] at E
      clear hp
      have HP := Lib.hid hPe
      clear h hPe
      go_enter Try.func16, Try.ntmps16
      go_wp2_with fail
      refine Hc.out.mono ?_; rintro e w1 ⟨rfl, m⟩; rw [H.out]; have M := Lib.hid m
      have Hx1 := Lib.hid (Hx.out.frame m)
      have Hy1 := Lib.hid (Hy.out.frame m)
      clear m
      go_wp2_with fail
      refine (refPurity_any _ _ _ _ _ _ Hy1.out).mono ?_; rintro e w2 ⟨rfl, rfl⟩; rw [HP.out]
      obtain ⟨_, b, o, ha, hcl⟩ := Hx1.out.open
      have Ha := Lib.hid ha
      have Hcl := Lib.hid hcl
      clear ha hcl
      go_wp2
      go_loop [10] (fun i => ∃ k : Nat, k ≤ l.length ∧ i = .int .i64 k ∧ classAt (l.drop k) P k = classAt l P 0) (fun i => l.length - (intOf i).toNat)
      case atStart => exact ⟨0, by omega, rfl, rfl⟩
      case round =>
        obtain ⟨k, hk, rfl, hr⟩ := hrel
        have Hr := Lib.hid hr
        clear hr
        by_cases hlt : k < l.length
        · have h1 := (Hcl.out k hlt).1
          obtain rfl := Ha.out (by intro h; simp [h] at hlt)
          have e := Lib.hid (show classAt (l.drop k) P k = if (gx l k).1 ≤ P then (k : Int) else classAt (l.drop (k + 1)) P (k + 1) by rw [drop_gx hlt]; rfl)
          generalize (gx l k).1 = g at *
          have q1 : (0 : Int) ≤ (k : Int) := by omega
          have q2 : (k : Int) < (l.length : Int) := by omega
          by_cases hg : g ≤ P
          · have Hk := Lib.hid (show classAt l P 0 = (k : Int) by rw [← Hr.out, e.out, if_pos hg])
            have d1 : decide (g ≤ P) = true := decide_eq_true hg
            go_wp2
            go_ret2
            rw [E.out, Hk.out, if_neg (by omega)]
            exact ⟨rfl, M.out⟩
          · have Hk := Lib.hid (show classAt (l.drop (k + 1)) P ((k : Int) + 1) = classAt l P 0 by rw [← Hr.out, e.out, if_neg hg])
            have d1 : decide (g ≤ P) = false := decide_eq_false hg
            go_wp2
            exact ⟨⟨k + 1, by omega, by go_num, by rw [← Hk.out]; simp⟩, by simp [intOf]; omega⟩
        · have Hk := Lib.hid (show classAt l P 0 = -1 by rw [← Hr.out, List.drop_eq_nil_of_le (by omega)]; rfl)
          go_wp2
          go_ret2
          rw [E.out, if_pos Hk.out]
          exact ⟨rfl, M.out⟩
    · have E := Lib.hid (show ofG l xs i = (0, (purL xs i).2) by unfold ofG; rw [if_pos h, if_neg hp])
      have hne : ((purL xs i).2 != 0) = true := by simpa using hp
      clear h hp
      go_enter Try.func16, Try.ntmps16
      go_wp2_with fail
      refine Hc.out.mono ?_; rintro e w1 ⟨rfl, m⟩; rw [H.out]; have M := Lib.hid m
      have Hy1 := Lib.hid (Hy.out.frame m)
      clear m
      go_wp2_with fail
      refine (refPurity_any _ _ _ _ _ _ Hy1.out).mono ?_; rintro e w2 ⟨rfl, rfl⟩
      go_wp2
      go_ret2
      rw [E.out]
      exact ⟨rfl, M.out⟩
  · have hne : (chkG l != 0) = true := by simpa using h
    have E := Lib.hid (show ofG l xs i = (0, chkG l) by unfold ofG; rw [if_neg h])
    clear h
    go_enter Try.func16, Try.ntmps16
    go_wp2_with fail
    refine Hc.out.mono ?_; rintro e w1 ⟨rfl, m⟩; have M := Lib.hid m; clear m
    go_wp2
    go_ret2
    rw [E.out]
    exact ⟨rfl, M.out⟩

end Go.Proofs.Ytoneoeckilaglaa
