/-
  grade.Worth; the reference's.
-/
import Derived.Test.YtoneoeckilaglaaGf
set_option linter.unusedVariables false
set_option linter.unusedSimpArgs false
namespace Go.Proofs.Ytoneoeckilaglaa
open Go.RowKit Go.Shelf

def worG (l : List (Int × Int)) (xs : List Int) (i : Int) : Int × Int :=
  if (ofG l xs i).2 = 0 then prcG l (ofG l xs i).1 (totL xs).1 else (0, (ofG l xs i).2)
theorem ofG_facts {l : List (Int × Int)} {xs : List Int} {i : Int} (h : (ofG l xs i).2 = 0) : chkG l = 0 ∧ (purL xs i).2 = 0 ∧ (ofG l xs i).1 = classAt l (purL xs i).1 0 ∧ classAt l (purL xs i).1 0 ≠ -1 := by
  unfold ofG at h ⊢
  split at h
  · next h1 =>
    split at h
    · next h2 =>
      split at h
      · exact absurd h (by decide)
      · next h3 => rw [if_pos h1, if_pos h2, if_neg h3]; exact ⟨h1, h2, rfl, h3⟩
    · next h2 => exact absurd h h2
  · next h1 => exact absurd h h1
theorem pur_tot {xs : List Int} {i : Int} (h : (purL xs i).2 = 0) : (totL xs).2 = 0 := by
  unfold purL at h
  split at h
  · next h1 => rw [totL_ok h1]
  · next h1 => exact absurd h h1

set_option maxRecDepth 100000 in
set_option maxHeartbeats 800000 in
theorem gradeWorth_any (a : Option Addr) (c : Nat) (l : List (Int × Int)) (a2 : Option Addr) (c2 : Nat) (xs : List Int) (i : Int) (D D2 : Nat → Prop) (w : World) (hx : Grs D w a l) (hy : Ints D2 w a2 xs) :
    Calls Try.prog 19 #[.slice a l.length c, .slice a2 xs.length c2, .int .i64 i] w fun e w' => e = .returned (.tuple #[.int .i64 (worG l xs i).1, .int .i64 (worG l xs i).2]) ∧ Mod NoBlock w w' := by
  have Hc := Lib.hid (gradeOf_any a c l a2 c2 xs i D D2 w hx hy)
  have Hx := Lib.hid hx
  have Hy := Lib.hid hy
  clear hx hy
  by_cases h : (ofG l xs i).2 = 0
  · have E := Lib.hid (show worG l xs i = prcG l (ofG l xs i).1 (totL xs).1 by unfold worG; rw [if_pos h])
    obtain ⟨k, hk⟩ : ∃ k, ofG l xs i = (k, 0) := ⟨(ofG l xs i).1, by rw [← h]⟩
    rw [hk] at E Hc
    clear h hk
    go_enter Try.func19, Try.ntmps19
    go_wp2_with fail
    refine Hc.out.mono ?_; rintro e w1 ⟨rfl, m⟩
    have M := Lib.hid m
    have Hx1 := Lib.hid (Hx.out.frame m)
    have Hy1 := Lib.hid (Hy.out.frame m)
    clear m
    go_wp2_with fail
    refine (matTotal_any _ _ _ _ _ Hy1.out).mono ?_; rintro e w2 ⟨rfl, m⟩
    have M2 := Lib.hid (M.out.trans m)
    have Hx2 := Lib.hid (Hx1.out.frame m)
    clear m
    go_wp2_with fail
    refine (gradePrice_any _ _ _ _ _ _ _ Hx2.out).mono ?_; rintro e w3 ⟨rfl, m⟩
    have M3 := Lib.hid (M2.out.trans m)
    clear m
    go_wp2
    go_ret2
    rw [E.out]
    exact ⟨rfl, M3.out⟩
  · have E := Lib.hid (show worG l xs i = (0, (ofG l xs i).2) by unfold worG; rw [if_neg h])
    have hne : ((ofG l xs i).2 != 0) = true := by simpa using h
    clear h
    go_enter Try.func19, Try.ntmps19
    go_wp2_with fail
    refine Hc.out.mono ?_; rintro e w1 ⟨rfl, m⟩
    have M := Lib.hid m
    clear m
    go_wp2
    go_ret2
    rw [E.out]
    exact ⟨rfl, M.out⟩

set_option maxRecDepth 100000 in
set_option maxHeartbeats 800000 in
theorem refWorth_any (a : Option Addr) (c : Nat) (l : List (Int × Int)) (a2 : Option Addr) (c2 : Nat) (xs : List Int) (i : Int) (D D2 : Nat → Prop) (w : World) (hx : Grs D w a l) (hy : Ints D2 w a2 xs) :
    Calls Try.prog 20 #[.slice a l.length c, .slice a2 xs.length c2, .int .i64 i] w fun e w' => e = .returned (.tuple #[.int .i64 (worG l xs i).1, .int .i64 (worG l xs i).2]) ∧ Mod NoBlock w w' := by
  have Hc := Lib.hid (refOf_any a c l a2 c2 xs i D D2 w hx hy)
  have Hx := Lib.hid hx
  have Hy := Lib.hid hy
  clear hx hy
  by_cases h : (ofG l xs i).2 = 0
  · have E := Lib.hid (show worG l xs i = prcG l (ofG l xs i).1 (totL xs).1 by unfold worG; rw [if_pos h])
    have T := Lib.hid (pur_tot (ofG_facts h).2.1)
    obtain ⟨k, hk⟩ : ∃ k, ofG l xs i = (k, 0) := ⟨(ofG l xs i).1, by rw [← h]⟩
    rw [hk] at E Hc
    clear h hk
    go_enter Try.func20, Try.ntmps20
    go_wp2_with fail
    refine Hc.out.mono ?_; rintro e w1 ⟨rfl, m⟩
    have M := Lib.hid m
    have Hx1 := Lib.hid (Hx.out.frame m)
    have Hy1 := Lib.hid (Hy.out.frame m)
    clear m
    go_wp2_with fail
    refine (refTotal_any _ _ _ _ _ Hy1.out).mono ?_; rintro e w2 ⟨rfl, rfl⟩
    rw [T.out]
    go_wp2_with fail
    refine (refGradePrice_any _ _ _ _ _ _ _ Hx1.out).mono ?_; rintro e w3 ⟨rfl, m⟩
    have M3 := Lib.hid (M.out.trans m)
    clear m
    go_wp2
    go_ret2
    rw [E.out]
    exact ⟨rfl, M3.out⟩
  · have E := Lib.hid (show worG l xs i = (0, (ofG l xs i).2) by unfold worG; rw [if_neg h])
    have hne : ((ofG l xs i).2 != 0) = true := by simpa using h
    clear h
    go_enter Try.func20, Try.ntmps20
    go_wp2_with fail
    refine Hc.out.mono ?_; rintro e w1 ⟨rfl, m⟩
    have M := Lib.hid m
    clear m
    go_wp2
    go_ret2
    rw [E.out]
    exact ⟨rfl, M.out⟩

end Go.Proofs.Ytoneoeckilaglaa
