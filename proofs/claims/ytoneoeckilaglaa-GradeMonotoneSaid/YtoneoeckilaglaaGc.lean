/-
  grade.Better, Price; the reference's.
-/
import Derived.Test.YtoneoeckilaglaaGb
import Derived.Test.YtoneoeckilaglaaNh
set_option linter.unusedVariables false
set_option linter.unusedSimpArgs false
namespace Go.Proofs.Ytoneoeckilaglaa
open Go.RowKit

def betterB (l : List (Int × Int)) (x y : Int) : Bool := decide (chkG l = 0) && (decide (0 ≤ x) && (decide (x ≤ y) && decide (y < (l.length : Int))))
def prcG (l : List (Int × Int)) (x y : Int) : Int × Int :=
  if chkG l = 0 then if x < 0 ∨ (l.length : Int) ≤ x then (0, 7) else if y < 0 ∨ 70368744177664 < y then (0, 1) else scaleN y (gx l x.toNat).2 1000000 2 else (0, chkG l)

theorem refGrades_mod (a : Option Addr) (c : Nat) (l : List (Int × Int)) (D : Nat → Prop) (w : World) (hx : Grs D w a l) :
    Calls Try.prog 11 #[.slice a l.length c] w fun e w' => e = .returned (.int .i64 (chkG l)) ∧ Mod NoBlock w w' :=
  (refGrades_any a c l D w hx).mono fun e w' ⟨h1, h2⟩ => ⟨h1, (Mod.refl _ _).drawn h2⟩
theorem refScale_all (a b c mode : Int) (w : World) : Calls Try.prog 26 #[.int .i64 a, .int .i64 b, .int .i64 c, .int .i64 mode] w fun e w' => e = .returned (.tuple #[.int .i64 (scaleN a b c mode).1, .int .i64 (scaleN a b c mode).2]) ∧ Mod NoBlock w w' := by
  cases h : goodN a b c mode
  · rw [scaleN_bad h]; exact (refScale_bad a b c mode h w).mono fun e w' ⟨h1, h2⟩ => ⟨h1, by rw [← h2]; exact Mod.refl _ _⟩
  · exact (refScale_ok a b c mode h w).mono fun e w' ⟨h1, h2⟩ => ⟨h1, by rw [← h2]; exact Mod.refl _ _⟩

set_option maxHeartbeats 800000 in
theorem gradeBetter_any (a : Option Addr) (c : Nat) (l : List (Int × Int)) (x y : Int) (D : Nat → Prop) (w : World) (hx : Grs D w a l) :
    Calls Try.prog 12 #[.slice a l.length c, .int .i64 x, .int .i64 y] w fun e w' => e = .returned (.bool (betterB l x y)) ∧ Mod NoBlock w w' := by
  have Hc := Lib.hid (gradeCheck_any a c l D w hx)
  have hlx := hx.open.1
  clear hx
  by_cases h : chkG l = 0
  · have H := Lib.hid h
    have E := Lib.hid (show betterB l x y = (decide (0 ≤ x) && (decide (x ≤ y) && decide (y < (l.length : Int)))) by unfold betterB; rw [h]; rfl)
    clear h
    by_cases t1 : 0 ≤ x
    · by_cases t2 : x ≤ y
      · by_cases t3 : y < (l.length : Int)
        all_goals
          go_enter Try.func12, Try.ntmps12
          go_wp2_with (go_at_call 10; refine Hc.out.mono ?_; rintro e w1 ⟨rfl, m⟩; rw [H.out]; have M := Lib.hid m; clear m)
          go_ret
          exact ⟨ret_bool (by rw [E.out]; simp [*]), M.out⟩
      · go_enter Try.func12, Try.ntmps12
        go_wp2_with (go_at_call 10; refine Hc.out.mono ?_; rintro e w1 ⟨rfl, m⟩; rw [H.out]; have M := Lib.hid m; clear m)
        go_ret
        exact ⟨ret_bool (by rw [E.out, decide_eq_false (show ¬ x ≤ y by omega)]; simp), M.out⟩
    · go_enter Try.func12, Try.ntmps12
      go_wp2_with (go_at_call 10; refine Hc.out.mono ?_; rintro e w1 ⟨rfl, m⟩; rw [H.out]; have M := Lib.hid m; clear m)
      go_ret
      exact ⟨ret_bool (by rw [E.out, decide_eq_false (show ¬ 0 ≤ x by omega)]; simp), M.out⟩
  · have hne : (chkG l == 0) = false := by simpa using h
    have E := Lib.hid (show betterB l x y = false by unfold betterB; rw [decide_eq_false h]; rfl)
    clear h
    go_enter Try.func12, Try.ntmps12
    go_wp2_with (go_at_call 10; refine Hc.out.mono ?_; rintro e w1 ⟨rfl, m⟩; have M := Lib.hid m; clear m)
    go_ret
    exact ⟨ret_bool E.out.symm, M.out⟩

set_option maxHeartbeats 800000 in
theorem refGradeBetter_any (a : Option Addr) (c : Nat) (l : List (Int × Int)) (x y : Int) (D : Nat → Prop) (w : World) (hx : Grs D w a l) :
    Calls Try.prog 13 #[.slice a l.length c, .int .i64 x, .int .i64 y] w fun e w' => e = .returned (.bool (betterB l x y)) ∧ Mod NoBlock w w' := by
  have Hc := Lib.hid (refGrades_mod a c l D w hx)
  have hlx := hx.open.1
  clear hx
  by_cases h : chkG l = 0
  · have H := Lib.hid h
    have E := Lib.hid (show betterB l x y = (decide (0 ≤ x) && (decide (x ≤ y) && decide (y < (l.length : Int)))) by unfold betterB; rw [h]; rfl)
    clear h
    by_cases t1 : 0 ≤ x
    · by_cases t2 : x ≤ y
      · by_cases t3 : y < (l.length : Int)
        all_goals
          go_enter Try.func13, Try.ntmps13
          go_wp2_with (go_at_call 11; refine Hc.out.mono ?_; rintro e w1 ⟨rfl, m⟩; rw [H.out]; have M := Lib.hid m; clear m)
          go_ret
          exact ⟨ret_bool (by rw [E.out]; simp [*]), M.out⟩
      · go_enter Try.func13, Try.ntmps13
        go_wp2_with (go_at_call 11; refine Hc.out.mono ?_; rintro e w1 ⟨rfl, m⟩; rw [H.out]; have M := Lib.hid m; clear m)
        go_ret
        exact ⟨ret_bool (by rw [E.out, decide_eq_false (show ¬ x ≤ y by omega)]; simp), M.out⟩
    · go_enter Try.func13, Try.ntmps13
      go_wp2_with (go_at_call 11; refine Hc.out.mono ?_; rintro e w1 ⟨rfl, m⟩; rw [H.out]; have M := Lib.hid m; clear m)
      go_ret
      exact ⟨ret_bool (by rw [E.out, decide_eq_false (show ¬ 0 ≤ x by omega)]; simp), M.out⟩
  · have hne : (chkG l == 0) = false := by simpa using h
    have E := Lib.hid (show betterB l x y = false by unfold betterB; rw [decide_eq_false h]; rfl)
    clear h
    go_enter Try.func13, Try.ntmps13
    go_wp2_with (go_at_call 11; refine Hc.out.mono ?_; rintro e w1 ⟨rfl, m⟩; have M := Lib.hid m; clear m)
    go_ret
    exact ⟨ret_bool E.out.symm, M.out⟩

set_option maxRecDepth 100000 in
set_option maxHeartbeats 800000 in
theorem gradePrice_any (a : Option Addr) (c : Nat) (l : List (Int × Int)) (x y : Int) (D : Nat → Prop) (w : World) (hx : Grs D w a l) :
    Calls Try.prog 17 #[.slice a l.length c, .int .i64 x, .int .i64 y] w fun e w' => e = .returned (.tuple #[.int .i64 (prcG l x y).1, .int .i64 (prcG l x y).2]) ∧ Mod NoBlock w w' := by
  have Hc := Lib.hid (gradeCheck_any a c l D w hx)
  have Hx := Lib.hid hx
  have hlx := hx.open.1
  clear hx
  by_cases h : chkG l = 0
  · have H := Lib.hid h
    have E := Lib.hid (show prcG l x y = if x < 0 ∨ (l.length : Int) ≤ x then (0, 7) else if y < 0 ∨ 70368744177664 < y then (0, 1) else scaleN y (gx l x.toNat).2 1000000 2 by unfold prcG; rw [if_pos h])
    clear h
    by_cases t1 : x < 0
    · go_enter Try.func17, Try.ntmps17
      go_wp2_with (go_at_call 10; refine Hc.out.mono ?_; rintro e w1 ⟨rfl, m⟩; rw [H.out]; have M := Lib.hid m; clear m)
      go_ret2
      rw [E.out, if_pos (.inl t1)]
      exact ⟨rfl, M.out⟩
    by_cases t2 : (l.length : Int) ≤ x
    · go_enter Try.func17, Try.ntmps17
      go_wp2_with (go_at_call 10; refine Hc.out.mono ?_; rintro e w1 ⟨rfl, m⟩; rw [H.out]; have M := Lib.hid m; clear m)
      go_ret2
      rw [E.out, if_pos (.inr t2)]
      exact ⟨rfl, M.out⟩
    have E2 := Lib.hid (E.out.trans (if_neg (by omega)))
    by_cases t3 : y < 0
    · go_enter Try.func17, Try.ntmps17
      go_wp2_with (go_at_call 10; refine Hc.out.mono ?_; rintro e w1 ⟨rfl, m⟩; rw [H.out]; have M := Lib.hid m; clear m)
      go_ret2
      rw [E2.out, if_pos (.inl t3)]
      exact ⟨rfl, M.out⟩
    by_cases t4 : 70368744177664 < y
    · go_enter Try.func17, Try.ntmps17
      go_wp2_with (go_at_call 10; refine Hc.out.mono ?_; rintro e w1 ⟨rfl, m⟩; rw [H.out]; have M := Lib.hid m; clear m)
      go_ret2
      rw [E2.out, if_pos (.inr t4)]
      exact ⟨rfl, M.out⟩
    · have E3 := Lib.hid (E2.out.trans (if_neg (by omega)))
      obtain ⟨k, rfl⟩ : ∃ k : Nat, x = k := ⟨x.toNat, by omega⟩
      have e2 : ((k : Int)).toNat = k := by simp
      rw [e2] at E3
      have hk : k < l.length := by omega
      obtain ⟨_, b, o, ha, hcl⟩ := Hx.out.open
      have hcell := (hcl k hk).2
      obtain rfl := ha (by intro h; simp [h] at hk)
      have Hcell := Lib.hid hcell
      generalize (gx l k).2 = p at *
      clear E E2 ha hcl hcell e2 hk
      go_enter Try.func17, Try.ntmps17
      go_wp2_with fail
      refine Hc.out.mono ?_; rintro e w1 ⟨rfl, m⟩; rw [H.out]; have M := Lib.hid m
      have hc9 := m.cell Hcell.out (fun h => h)
      clear m
      go_wp2_with fail
      refine (numScale_any _ _ _ _ _).mono ?_; rintro e w2 ⟨rfl, m⟩
      have M2 := Lib.hid (M.out.trans m)
      clear m hc9
      go_wp2
      go_ret2
      rw [E3.out]
      exact ⟨rfl, M2.out⟩
  · have hne : (chkG l != 0) = true := by simpa using h
    have E := Lib.hid (show prcG l x y = (0, chkG l) by unfold prcG; rw [if_neg h])
    clear h
    go_enter Try.func17, Try.ntmps17
    go_wp2_with (go_at_call 10; refine Hc.out.mono ?_; rintro e w1 ⟨rfl, m⟩; have M := Lib.hid m; clear m)
    go_ret2
    rw [E.out]
    exact ⟨rfl, M.out⟩

set_option maxRecDepth 100000 in
set_option maxHeartbeats 800000 in
theorem refGradePrice_any (a : Option Addr) (c : Nat) (l : List (Int × Int)) (x y : Int) (D : Nat → Prop) (w : World) (hx : Grs D w a l) :
    Calls Try.prog 18 #[.slice a l.length c, .int .i64 x, .int .i64 y] w fun e w' => e = .returned (.tuple #[.int .i64 (prcG l x y).1, .int .i64 (prcG l x y).2]) ∧ Mod NoBlock w w' := by
  have Hc := Lib.hid (refGrades_mod a c l D w hx)
  have Hx := Lib.hid hx
  have hlx := hx.open.1
  clear hx
  by_cases h : chkG l = 0
  · have H := Lib.hid h
    have E := Lib.hid (show prcG l x y = if x < 0 ∨ (l.length : Int) ≤ x then (0, 7) else if y < 0 ∨ 70368744177664 < y then (0, 1) else scaleN y (gx l x.toNat).2 1000000 2 by unfold prcG; rw [if_pos h])
    clear h
    by_cases t1 : x < 0
    · go_enter Try.func18, Try.ntmps18
      go_wp2_with (go_at_call 11; refine Hc.out.mono ?_; rintro e w1 ⟨rfl, m⟩; rw [H.out]; have M := Lib.hid m; clear m)
      go_ret2
      rw [E.out, if_pos (.inl t1)]
      exact ⟨rfl, M.out⟩
    by_cases t2 : (l.length : Int) ≤ x
    · go_enter Try.func18, Try.ntmps18
      go_wp2_with (go_at_call 11; refine Hc.out.mono ?_; rintro e w1 ⟨rfl, m⟩; rw [H.out]; have M := Lib.hid m; clear m)
      go_ret2
      rw [E.out, if_pos (.inr t2)]
      exact ⟨rfl, M.out⟩
    have E2 := Lib.hid (E.out.trans (if_neg (by omega)))
    by_cases t3 : y < 0
    · go_enter Try.func18, Try.ntmps18
      go_wp2_with (go_at_call 11; refine Hc.out.mono ?_; rintro e w1 ⟨rfl, m⟩; rw [H.out]; have M := Lib.hid m; clear m)
      go_ret2
      rw [E2.out, if_pos (.inl t3)]
      exact ⟨rfl, M.out⟩
    by_cases t4 : 70368744177664 < y
    · go_enter Try.func18, Try.ntmps18
      go_wp2_with (go_at_call 11; refine Hc.out.mono ?_; rintro e w1 ⟨rfl, m⟩; rw [H.out]; have M := Lib.hid m; clear m)
      go_ret2
      rw [E2.out, if_pos (.inr t4)]
      exact ⟨rfl, M.out⟩
    · have E3 := Lib.hid (E2.out.trans (if_neg (by omega)))
      obtain ⟨k, rfl⟩ : ∃ k : Nat, x = k := ⟨x.toNat, by omega⟩
      have e2 : ((k : Int)).toNat = k := by simp
      rw [e2] at E3
      have hk : k < l.length := by omega
      obtain ⟨_, b, o, ha, hcl⟩ := Hx.out.open
      have hcell := (hcl k hk).2
      obtain rfl := ha (by intro h; simp [h] at hk)
      have Hcell := Lib.hid hcell
      generalize (gx l k).2 = p at *
      clear E E2 ha hcl hcell e2 hk
      go_enter Try.func18, Try.ntmps18
      go_wp2_with fail
      refine Hc.out.mono ?_; rintro e w1 ⟨rfl, m⟩; rw [H.out]; have M := Lib.hid m
      have hc9 := m.cell Hcell.out (fun h => h)
      clear m
      go_wp2_with fail
      refine (refScale_all _ _ _ _ _).mono ?_; rintro e w2 ⟨rfl, m⟩
      have M2 := Lib.hid (M.out.trans m)
      clear m hc9
      go_wp2
      go_ret2
      rw [E3.out]
      exact ⟨rfl, M2.out⟩
  · have hne : (chkG l != 0) = true := by simpa using h
    have E := Lib.hid (show prcG l x y = (0, chkG l) by unfold prcG; rw [if_neg h])
    clear h
    go_enter Try.func18, Try.ntmps18
    go_wp2_with (go_at_call 11; refine Hc.out.mono ?_; rintro e w1 ⟨rfl, m⟩; have M := Lib.hid m; clear m)
    go_ret2
    rw [E.out]
    exact ⟨rfl, M.out⟩

end Go.Proofs.Ytoneoeckilaglaa
