/-
  The laws GradeDearer and GradeFewer walked.
-/
import Derived.Test.YtoneoeckilaglaaGk
import Derived.Test.YtoneoeckilaglaaOpen
set_option linter.unusedVariables false
set_option linter.unusedSimpArgs false
namespace Go.Proofs.Ytoneoeckilaglaa
open Go.RowKit

theorem down_le {p : Nat → Int × Int} {n i : Nat} (h : ∀ k, k + 1 < n → (p (k + 1)).2 ≤ (p k).2) : ∀ d, i + d < n → (p (i + d)).2 ≤ (p i).2
  | 0, _ => Int.le_refl _
  | d + 1, hd => Int.le_trans (h (i + d) (by omega)) (down_le h d (by omega))

theorem gradePrice_is {l : List (Int × Int)} {x y P E : Int} (h : prcG l x y = (P, E)) (a : Option Addr) (c : Nat) (D : Nat → Prop) (w : World) (hx : Grs D w a l) :
    Calls Try.prog 17 #[.slice a l.length c, .int .i64 x, .int .i64 y] w fun e w' => e = .returned (.tuple #[.int .i64 P, .int .i64 E]) ∧ Mod NoBlock w w' := by
  have := gradePrice_any a c l x y D w hx
  rw [h] at this
  exact this

set_option maxRecDepth 100000 in
set_option maxHeartbeats 3200000 in
theorem gradeDearer_fin (a : Option Addr) (c : Nat) (l : List (Int × Int)) {w : World} (hx : Grs Any w a l) (hcap : l.length ≤ c) (x : Int) (_ : I64 x) (y : Int) (_ : I64 y) (g : Int) (_ : I64 g) (_ : World) :
    Calls Try.prog 8 #[.slice a l.length c, .int .i64 x, .int .i64 y, .int .i64 g] w fun e w' => e = .returned (.bool true) ∧ Mod NoBlock w w' := by
  have M := Lib.hid (Mod.refl NoBlock w)
  have HX := Lib.hid hx
  have hl := hx.open.1
  clear hx hcap
  by_cases h1 : 100 < (l.length : Int)
  · have hd : decide ((l.length : Int) > 100) = true := decide_eq_true h1
    go_enter Try.func8, Try.ntmps8
    go_wp2_with fail
    refine (awakeG_any _).mono ?_; rintro e w9 ⟨rfl, m⟩; have M := Lib.hid (M.out.trans m); clear m
    go_wp2
    go_ret
    exact ⟨rfl, M.out⟩
  have hd1 : decide ((l.length : Int) > 100) = false := decide_eq_false h1
  by_cases h2 : ¬ chkG l = 0
  · have hne : (chkG l != 0) = true := by simpa using h2
    go_enter Try.func8, Try.ntmps8
    go_wp2_with fail
    refine (gradeCheck_any _ _ _ _ _ HX.out).mono ?_; rintro e w1 ⟨rfl, m⟩
    have M := Lib.hid (M.out.trans m); clear m
    go_wp2_with fail
    refine (awakeG_any _).mono ?_; rintro e w9 ⟨rfl, m⟩; have M := Lib.hid (M.out.trans m); clear m
    go_wp2
    go_ret
    exact ⟨rfl, M.out⟩
  have h2 : chkG l = 0 := Decidable.not_not.1 h2
  have Hc := Lib.hid h2
  have AW := awakeG_any
  by_cases h3 : x < 0 ∨ (¬ x < 0 ∧ y < x) ∨ (¬ x < 0 ∧ ¬ y < x ∧ (l.length : Int) ≤ y) ∨ (¬ x < 0 ∧ ¬ y < x ∧ ¬ (l.length : Int) ≤ y ∧ g < 0) ∨ (¬ x < 0 ∧ ¬ y < x ∧ ¬ (l.length : Int) ≤ y ∧ ¬ g < 0 ∧ 1073741824 < g)
  · clear h2
    rcases h3 with q1 | ⟨q1, q2⟩ | ⟨q1, q2, q3⟩ | ⟨q1, q2, q3, q4⟩ | ⟨q1, q2, q3, q4, q5⟩
    all_goals
      go_enter Try.func8, Try.ntmps8
      go_wp2_with fail
      refine (gradeCheck_any _ _ _ _ _ HX.out).mono ?_; rintro e w1 ⟨rfl, m⟩
      have M := Lib.hid (M.out.trans m); clear m
      rw [Hc.out]
      go_wp2_with fail
      refine (AW _).mono ?_; rintro e w9 ⟨rfl, m⟩; have M := Lib.hid (M.out.trans m); clear m
      go_wp2
      go_ret
      exact ⟨rfl, M.out⟩
  · obtain ⟨f1, f2, f3, f4⟩ := chkG_facts h2
    obtain ⟨i, rfl⟩ : ∃ i : Nat, x = i := ⟨x.toNat, by omega⟩
    obtain ⟨j, rfl⟩ : ∃ j : Nat, y = j := ⟨y.toNat, by omega⟩
    have hi : i < l.length := by omega
    have hj : j < l.length := by omega
    obtain ⟨_, _, p1, p2⟩ := f3 i hi
    obtain ⟨_, _, p3, p4⟩ := f3 j hj
    have hord : (gx l j).2 ≤ (gx l i).2 := by
      obtain ⟨d, rfl⟩ : ∃ d, j = i + d := ⟨j - i, by omega⟩
      exact down_le (fun k hk => (f4 k hk).2) d hj
    obtain ⟨X, e1, n1, n2, n3, n4⟩ := price_near (g := g) (by omega) (by omega) p1 p2
    obtain ⟨Y, e2, m1, m2, m3, m4⟩ := price_near (g := g) (by omega) (by omega) p3 p4
    have hXY := price_mono (g := g) (by omega) (by omega) p1 p2 p3 p4 hord e1 e2
    have E1 := Lib.hid (show prcG l (i : Int) g = (X, 0) by unfold prcG; rw [if_pos h2, if_neg (by omega), if_neg (by omega)]; exact e1)
    have E2 := Lib.hid (show prcG l (j : Int) g = (Y, 0) by unfold prcG; rw [if_pos h2, if_neg (by omega), if_neg (by omega)]; exact e2)
    obtain ⟨_, b, o, ha, hcl⟩ := HX.out.open
    have hcell := (hcl i hi).2
    obtain rfl := ha (by intro h; simp [h] at hi)
    have Hcell := Lib.hid hcell
    have hgP : -2000000000000000 ≤ g * (gx l i).2 ∧ g * (gx l i).2 ≤ 2000000000000000 := by omega
    obtain ⟨hg1, hg2⟩ := hgP
    generalize (gx l i).2 = p at *
    clear e1 e2 f3 f4 hcell hcl ha hord h2 p3 p4 m1 m2 m3 m4
    have q1 : ¬ (i : Int) < 0 := by omega
    have q2 : ¬ (j : Int) < i := by omega
    have q3 : ¬ (l.length : Int) ≤ j := by omega
    have q4 : ¬ g < 0 := by omega
    have q5 : ¬ 1073741824 < g := by omega
    by_cases hs : g * p - X * 1000000 < 0
    all_goals
     go_enter Try.func8, Try.ntmps8
     go_wp2_with fail
     refine (gradeCheck_any _ _ _ _ _ HX.out).mono ?_; rintro e w1 ⟨rfl, m⟩
     have M := Lib.hid (M.out.trans m); have HX := Lib.hid (HX.out.frame m); have Hcell := Lib.hid (m.cell Hcell.out id); clear m
     rw [Hc.out]
     go_wp2_with fail
     refine (gradePrice_is E1.out _ _ _ _ HX.out).mono ?_; rintro e w2 ⟨rfl, m⟩
     have M := Lib.hid (M.out.trans m); have HX := Lib.hid (HX.out.frame m); have Hcell := Lib.hid (m.cell Hcell.out id); clear m
     go_wp2_with fail
     refine (gradePrice_is E2.out _ _ _ _ HX.out).mono ?_; rintro e w3 ⟨rfl, m⟩
     have M := Lib.hid (M.out.trans m); have hcell := m.cell Hcell.out id; clear m HX Hcell E1 E2
     go_wp2_with fail
     refine (AW _).mono ?_; rintro e w9 ⟨rfl, m⟩; have M := Lib.hid (M.out.trans m); clear m
     go_wp2
     go_ret
     exact ⟨rfl, M.out⟩

end Go.Proofs.Ytoneoeckilaglaa
