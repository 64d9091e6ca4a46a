/-
  The laws GradeChecks, GradeOfs, GradePrices, GradeWorths walked.
-/
import Derived.Test.YtoneoeckilaglaaGi
import Derived.Test.YtoneoeckilaglaaOpen
set_option linter.unusedVariables false
set_option linter.unusedSimpArgs false
namespace Go.Proofs.Ytoneoeckilaglaa
open Go.RowKit

set_option maxRecDepth 100000 in
set_option maxHeartbeats 1600000 in
theorem gradeChecks_fin (a : Option Addr) (c : Nat) (l : List (Int × Int)) {w : World} (hx : Grs Any w a l) (hcap : l.length ≤ c) (x : Int) (_ : I64 x) (y : Int) (_ : I64 y) (_ : World) :
    Calls Try.prog 3 #[.slice a l.length c, .int .i64 x, .int .i64 y] w fun e w' => e = .returned (.bool true) ∧ Mod NoBlock w w' := by
  have M := Lib.hid (Mod.refl NoBlock w)
  have HX := Lib.hid hx
  have hl := hx.open.1
  clear hx hcap
  by_cases h : 100 < (l.length : Int)
  · have hd : decide ((l.length : Int) > 100) = true := decide_eq_true h
    go_enter Try.func3, Try.ntmps3
    go_wp2_with fail
    refine (awakeG_any _).mono ?_; rintro e w9 ⟨rfl, m⟩; have M := Lib.hid (M.out.trans m); clear m
    go_wp2
    go_ret
    exact ⟨rfl, M.out⟩
  · have hd : decide ((l.length : Int) > 100) = false := decide_eq_false h
    go_enter Try.func3, Try.ntmps3
    go_wp2_with fail
    refine (gradeCheck_any _ _ _ _ _ HX.out).mono ?_; rintro e w1 ⟨rfl, m⟩
    have M := Lib.hid (M.out.trans m); have HX := Lib.hid (HX.out.frame m); clear m
    go_wp2_with fail
    refine (refGrades_mod _ _ _ _ _ HX.out).mono ?_; rintro e w2 ⟨rfl, m⟩
    have M := Lib.hid (M.out.trans m); have HX := Lib.hid (HX.out.frame m); clear m
    go_wp2_with fail
    refine (gradeBetter_any _ _ _ _ _ _ _ HX.out).mono ?_; rintro e w3 ⟨rfl, m⟩
    have M := Lib.hid (M.out.trans m); have HX := Lib.hid (HX.out.frame m); clear m
    go_wp2_with fail
    refine (refGradeBetter_any _ _ _ _ _ _ _ HX.out).mono ?_; rintro e w4 ⟨rfl, m⟩
    have M := Lib.hid (M.out.trans m); clear m HX
    go_wp2_with fail
    refine (awakeG_any _).mono ?_; rintro e w9 ⟨rfl, m⟩; have M := Lib.hid (M.out.trans m); clear m
    go_wp2
    go_ret
    exact ⟨rfl, M.out⟩

set_option maxRecDepth 100000 in
set_option maxHeartbeats 1600000 in
theorem gradeOfs_fin (a : Option Addr) (c : Nat) (l : List (Int × Int)) {w : World} (hx : Grs Any w a l) (hcap : l.length ≤ c) (a2 : Option Addr) (c2 : Nat) (ys : List Int) (hy : Ints Any w a2 ys) (_ : ys.length ≤ c2) (_ : ∀ x ∈ ys, I64 x) (i : Int) (_ : I64 i) (_ : World) :
    Calls Try.prog 4 #[.slice a l.length c, .slice a2 ys.length c2, .int .i64 i] w fun e w' => e = .returned (.bool true) ∧ Mod NoBlock w w' := by
  have M := Lib.hid (Mod.refl NoBlock w)
  have HX := Lib.hid hx
  have hl := hx.open.1
  have HY := Lib.hid hy
  have hl2 := hy.1
  unfold maxLen at hl2
  clear hy
  clear hx hcap
  by_cases h1 : 100 < (l.length : Int)
  · have hdh1 : decide ((l.length : Int) > 100) = true := decide_eq_true h1
    go_enter Try.func4, Try.ntmps4
    go_wp2_with fail
    refine (awakeG_any _).mono ?_; rintro e w9 ⟨rfl, m⟩; have M := Lib.hid (M.out.trans m); clear m
    go_wp2
    go_ret
    exact ⟨rfl, M.out⟩
  have hdh1 : decide ((l.length : Int) > 100) = false := decide_eq_false h1
  by_cases h2 : 100 < (ys.length : Int)
  · have hdh2 : decide ((ys.length : Int) > 100) = true := decide_eq_true h2
    go_enter Try.func4, Try.ntmps4
    go_wp2_with fail
    refine (awakeG_any _).mono ?_; rintro e w9 ⟨rfl, m⟩; have M := Lib.hid (M.out.trans m); clear m
    go_wp2
    go_ret
    exact ⟨rfl, M.out⟩
  have hdh2 : decide ((ys.length : Int) > 100) = false := decide_eq_false h2
  go_enter Try.func4, Try.ntmps4
  generalize hR : ofG l ys i = R
  go_wp2_with fail
  refine (gradeOf_any _ _ _ _ _ _ _ _ _ _ HX.out HY.out).mono ?_; rw [hR]; rintro e w1 ⟨rfl, m⟩
  have M := Lib.hid (M.out.trans m); have HX := Lib.hid (HX.out.frame m); have HY := Lib.hid (HY.out.frame m); clear m
  go_wp2_with fail
  refine (refOf_any _ _ _ _ _ _ _ _ _ _ HX.out HY.out).mono ?_; rw [hR]; rintro e w2 ⟨rfl, m⟩
  have M := Lib.hid (M.out.trans m); have HX := Lib.hid (HX.out.frame m); have HY := Lib.hid (HY.out.frame m); clear m
  clear hR
  obtain ⟨R1, R2⟩ := R
  go_wp2_with fail
  refine (awakeG_any _).mono ?_; rintro e w9 ⟨rfl, m⟩; have M := Lib.hid (M.out.trans m); clear m
  go_wp2
  go_ret
  exact ⟨rfl, M.out⟩

set_option maxRecDepth 100000 in
set_option maxHeartbeats 1600000 in
theorem gradePrices_fin (a : Option Addr) (c : Nat) (l : List (Int × Int)) {w : World} (hx : Grs Any w a l) (hcap : l.length ≤ c) (x : Int) (_ : I64 x) (y : Int) (_ : I64 y) (_ : World) :
    Calls Try.prog 5 #[.slice a l.length c, .int .i64 x, .int .i64 y] w fun e w' => e = .returned (.bool true) ∧ Mod NoBlock w w' := by
  have M := Lib.hid (Mod.refl NoBlock w)
  have HX := Lib.hid hx
  have hl := hx.open.1
  clear hx hcap
  by_cases h1 : 100 < (l.length : Int)
  · have hdh1 : decide ((l.length : Int) > 100) = true := decide_eq_true h1
    go_enter Try.func5, Try.ntmps5
    go_wp2_with fail
    refine (awakeG_any _).mono ?_; rintro e w9 ⟨rfl, m⟩; have M := Lib.hid (M.out.trans m); clear m
    go_wp2
    go_ret
    exact ⟨rfl, M.out⟩
  have hdh1 : decide ((l.length : Int) > 100) = false := decide_eq_false h1
  go_enter Try.func5, Try.ntmps5
  generalize hR : prcG l x y = R
  go_wp2_with fail
  refine (gradePrice_any _ _ _ _ _ _ _ HX.out).mono ?_; rw [hR]; rintro e w1 ⟨rfl, m⟩
  have M := Lib.hid (M.out.trans m); have HX := Lib.hid (HX.out.frame m); clear m
  go_wp2_with fail
  refine (refGradePrice_any _ _ _ _ _ _ _ HX.out).mono ?_; rw [hR]; rintro e w2 ⟨rfl, m⟩
  have M := Lib.hid (M.out.trans m); have HX := Lib.hid (HX.out.frame m); clear m
  clear hR
  obtain ⟨R1, R2⟩ := R
  go_wp2_with fail
  refine (awakeG_any _).mono ?_; rintro e w9 ⟨rfl, m⟩; have M := Lib.hid (M.out.trans m); clear m
  go_wp2
  go_ret
  exact ⟨rfl, M.out⟩

set_option maxRecDepth 100000 in
set_option maxHeartbeats 1600000 in
theorem gradeWorths_fin (a : Option Addr) (c : Nat) (l : List (Int × Int)) {w : World} (hx : Grs Any w a l) (hcap : l.length ≤ c) (a2 : Option Addr) (c2 : Nat) (ys : List Int) (hy : Ints Any w a2 ys) (_ : ys.length ≤ c2) (_ : ∀ x ∈ ys, I64 x) (i : Int) (_ : I64 i) (_ : World) :
    Calls Try.prog 6 #[.slice a l.length c, .slice a2 ys.length c2, .int .i64 i] w fun e w' => e = .returned (.bool true) ∧ Mod NoBlock w w' := by
  have M := Lib.hid (Mod.refl NoBlock w)
  have HX := Lib.hid hx
  have hl := hx.open.1
  have HY := Lib.hid hy
  have hl2 := hy.1
  unfold maxLen at hl2
  clear hy
  clear hx hcap
  by_cases h1 : 100 < (l.length : Int)
  · have hdh1 : decide ((l.length : Int) > 100) = true := decide_eq_true h1
    go_enter Try.func6, Try.ntmps6
    go_wp2_with fail
    refine (awakeG_any _).mono ?_; rintro e w9 ⟨rfl, m⟩; have M := Lib.hid (M.out.trans m); clear m
    go_wp2
    go_ret
    exact ⟨rfl, M.out⟩
  have hdh1 : decide ((l.length : Int) > 100) = false := decide_eq_false h1
  by_cases h2 : 100 < (ys.length : Int)
  · have hdh2 : decide ((ys.length : Int) > 100) = true := decide_eq_true h2
    go_enter Try.func6, Try.ntmps6
    go_wp2_with fail
    refine (awakeG_any _).mono ?_; rintro e w9 ⟨rfl, m⟩; have M := Lib.hid (M.out.trans m); clear m
    go_wp2
    go_ret
    exact ⟨rfl, M.out⟩
  have hdh2 : decide ((ys.length : Int) > 100) = false := decide_eq_false h2
  go_enter Try.func6, Try.ntmps6
  generalize hR : worG l ys i = R
  go_wp2_with fail
  refine (gradeWorth_any _ _ _ _ _ _ _ _ _ _ HX.out HY.out).mono ?_; rw [hR]; rintro e w1 ⟨rfl, m⟩
  have M := Lib.hid (M.out.trans m); have HX := Lib.hid (HX.out.frame m); have HY := Lib.hid (HY.out.frame m); clear m
  go_wp2_with fail
  refine (refWorth_any _ _ _ _ _ _ _ _ _ _ HX.out HY.out).mono ?_; rw [hR]; rintro e w2 ⟨rfl, m⟩
  have M := Lib.hid (M.out.trans m); have HX := Lib.hid (HX.out.frame m); have HY := Lib.hid (HY.out.frame m); clear m
  clear hR
  obtain ⟨R1, R2⟩ := R
  go_wp2_with fail
  refine (awakeG_any _).mono ?_; rintro e w9 ⟨rfl, m⟩; have M := Lib.hid (M.out.trans m); clear m
  go_wp2
  go_ret
  exact ⟨rfl, M.out⟩

end Go.Proofs.Ytoneoeckilaglaa
