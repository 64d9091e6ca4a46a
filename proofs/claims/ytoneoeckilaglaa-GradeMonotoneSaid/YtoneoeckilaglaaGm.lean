/-
  The law GradeFewer walked.
-/
import Derived.Test.YtoneoeckilaglaaGk
import Derived.Test.YtoneoeckilaglaaOpen
set_option linter.unusedVariables false
set_option linter.unusedSimpArgs false
namespace Go.Proofs.Ytoneoeckilaglaa
open Go.RowKit

theorem gradeOf_is {l : List (Int × Int)} {xs : List Int} {i P E : Int} (h : ofG l xs i = (P, E)) {n m : Nat} (hn : n = l.length) (hm : m = xs.length) (a : Option Addr) (c : Nat) (a2 : Option Addr) (c2 : Nat) (D D2 : Nat → Prop) (w : World) (hx : Grs D w a l) (hy : Ints D2 w a2 xs) :
    Calls Try.prog 15 #[.slice a n c, .slice a2 m c2, .int .i64 i] w fun e w' => e = .returned (.tuple #[.int .i64 P, .int .i64 E]) ∧ Mod NoBlock w w' := by
  subst hn; subst hm
  have := gradeOf_any a c l a2 c2 xs i D D2 w hx hy
  rw [h] at this
  exact this
theorem gradeCheck_is {l : List (Int × Int)} {E : Int} (h : chkG l = E) {n : Nat} (hn : n = l.length) (a : Option Addr) (c : Nat) (D : Nat → Prop) (w : World) (hx : Grs D w a l) :
    Calls Try.prog 10 #[.slice a n c] w fun e w' => e = .returned (.int .i64 E) ∧ Mod NoBlock w w' := by
  subst hn
  have := gradeCheck_any a c l D w hx
  rw [h] at this
  exact this

/-- Of without the last class. -/
theorem ofG_fewer {l : List (Int × Int)} {xs : List Int} {i : Int} (h : chkG l = 0) (h2 : 2 ≤ l.length) :
    (∃ e : Int, e ≠ 0 ∧ ofG l xs i = (0, e) ∧ ofG (l.take (l.length - 1)) xs i = (0, e)) ∨
    (ofG l xs i = (((l.length : Int) - 1), 0) ∧ ofG (l.take (l.length - 1)) xs i = (0, 25)) ∨
    (∃ x : Int, x ≠ (l.length : Int) - 1 ∧ ofG l xs i = (x, 0) ∧ ofG (l.take (l.length - 1)) xs i = (x, 0)) := by
  have h' := chkG_take (n := l.length - 1) h (by omega) (by omega)
  unfold ofG
  rw [if_pos h, if_pos h']
  by_cases hp : (purL xs i).2 = 0
  · rw [if_pos hp, if_pos hp, classAt_take l _ 0 (by omega)]
    rcases classAt_bound l (purL xs i).1 0 (by omega) with hc | ⟨c1, c2⟩
    · refine .inl ⟨25, by decide, ?_⟩
      rw [hc, if_pos rfl, if_pos (by omega)]
      exact ⟨rfl, rfl⟩
    · generalize classAt l (purL xs i).1 0 = x at *
      by_cases hl : x = (l.length : Int) - 1
      · refine .inr (.inl ?_)
        rw [if_neg (by omega), if_neg (show ¬ x < 0 + ((l.length - 1 : Nat) : Int) by omega), if_pos rfl, hl]
        exact ⟨rfl, rfl⟩
      · refine .inr (.inr ⟨x, hl, ?_⟩)
        rw [if_neg (by omega), if_pos (show x < 0 + ((l.length - 1 : Nat) : Int) by omega), if_neg (by omega)]
        exact ⟨rfl, rfl⟩
  · rw [if_neg hp, if_neg hp]
    exact .inl ⟨_, hp, rfl, rfl⟩

set_option maxRecDepth 100000 in
set_option maxHeartbeats 3200000 in
theorem gradeFewer_fin (a : Option Addr) (c : Nat) (l : List (Int × Int)) {w : World} (hx : Grs Any w a l) (hcap : l.length ≤ c) (a2 : Option Addr) (c2 : Nat) (ys : List Int) (hy : Ints Any w a2 ys) (_ : ys.length ≤ c2) (_ : ∀ x ∈ ys, I64 x) (i : Int) (_ : I64 i) (_ : World) :
    Calls Try.prog 9 #[.slice a l.length c, .slice a2 ys.length c2, .int .i64 i] w fun e w' => e = .returned (.bool true) ∧ Mod NoBlock w w' := by
  have M := Lib.hid (Mod.refl NoBlock w)
  have HX := Lib.hid hx
  have HY := Lib.hid hy
  have hl := hx.open.1
  have hl2 := hy.1
  unfold maxLen at hl2
  have AW := awakeG_any
  clear hx hy
  by_cases h3 : (l.length : Int) < 2 ∨ (¬ (l.length : Int) < 2 ∧ 100 < (l.length : Int)) ∨ (¬ (l.length : Int) < 2 ∧ ¬ 100 < (l.length : Int) ∧ 100 < (ys.length : Int))
  · rcases h3 with q1 | ⟨q1, q2⟩ | ⟨q1, q2, q3⟩
    all_goals
      go_enter Try.func9, Try.ntmps9
      go_wp2_with fail
      refine (AW _).mono ?_; rintro e w9 ⟨rfl, m⟩; have M := Lib.hid (M.out.trans m); clear m
      go_wp2
      go_ret
      exact ⟨rfl, M.out⟩
  have q1 : ¬ (l.length : Int) < 2 := by omega
  have q2 : ¬ 100 < (l.length : Int) := by omega
  have q3 : ¬ 100 < (ys.length : Int) := by omega
  clear h3
  by_cases h2 : ¬ chkG l = 0
  · have hne : (chkG l != 0) = true := by simpa using h2
    go_enter Try.func9, Try.ntmps9
    go_wp2_with fail
    refine (gradeCheck_any _ _ _ _ _ HX.out).mono ?_; rintro e w1 ⟨rfl, m⟩
    have M := Lib.hid (M.out.trans m); clear m
    go_wp2_with fail
    refine (AW _).mono ?_; rintro e w9 ⟨rfl, m⟩; have M := Lib.hid (M.out.trans m); clear m
    go_wp2
    go_ret
    exact ⟨rfl, M.out⟩
  have h2 : chkG l = 0 := Decidable.not_not.1 h2
  have Hc := Lib.hid h2
  have Hc2 := Lib.hid (chkG_take (n := l.length - 1) h2 (by omega) (by omega))
  have hlen2 : (l.take (l.length - 1)).length = l.length - 1 := by rw [List.length_take]; omega
  have Hlen2 := Lib.hid hlen2
  obtain ⟨b, off, rfl, _⟩ := HX.out.2 (by intro h; simp [h] at q1)
  rcases ofG_fewer (xs := ys) (i := i) h2 (by omega) with ⟨e0, h0, o1, o2⟩ | ⟨o1, o2⟩ | ⟨x, h0, o1, o2⟩
  · have O1 := Lib.hid o1
    have O2 := Lib.hid o2
    have hne : (e0 != 0) = true := by simpa using h0
    have heq : (e0 == 0) = false := by simpa using h0
    clear o1 o2 h2 hlen2
    go_enter Try.func9, Try.ntmps9
    go_wp2_with fail
    refine (gradeCheck_is Hc.out rfl _ _ _ _ HX.out).mono ?_; rintro e w1 ⟨rfl, m⟩
    have M := Lib.hid (M.out.trans m); have HX := Lib.hid (HX.out.frame m); have HY := Lib.hid (HY.out.frame m); clear m
    go_wp2_with fail
    refine (gradeOf_is O1.out rfl rfl _ _ _ _ _ _ _ HX.out HY.out).mono ?_; rintro e w2 ⟨rfl, m⟩
    have M := Lib.hid (M.out.trans m); have HX := Lib.hid (HX.out.frame m); have HY := Lib.hid (HY.out.frame m); clear m
    go_wp2_with fail
    refine (gradeOf_is O2.out Hlen2.out.symm rfl _ _ _ _ _ _ _ (HX.out.take _) HY.out).mono ?_; rintro e w3 ⟨rfl, m⟩
    have M := Lib.hid (M.out.trans m); have HX := Lib.hid (HX.out.frame m); clear m HY
    go_wp2_with fail
    refine (gradeCheck_is Hc2.out Hlen2.out.symm _ _ _ _ (HX.out.take _)).mono ?_; rintro e w4 ⟨rfl, m⟩
    have M := Lib.hid (M.out.trans m); clear m HX
    go_wp2_with fail
    refine (AW _).mono ?_; rintro e w9 ⟨rfl, m⟩; have M := Lib.hid (M.out.trans m); clear m
    go_wp2
    go_ret
    exact ⟨rfl, M.out⟩
  · have O1 := Lib.hid o1
    have O2 := Lib.hid o2
    clear o1 o2 h2 hlen2
    go_enter Try.func9, Try.ntmps9
    go_wp2_with fail
    refine (gradeCheck_is Hc.out rfl _ _ _ _ HX.out).mono ?_; rintro e w1 ⟨rfl, m⟩
    have M := Lib.hid (M.out.trans m); have HX := Lib.hid (HX.out.frame m); have HY := Lib.hid (HY.out.frame m); clear m
    go_wp2_with fail
    refine (gradeOf_is O1.out rfl rfl _ _ _ _ _ _ _ HX.out HY.out).mono ?_; rintro e w2 ⟨rfl, m⟩
    have M := Lib.hid (M.out.trans m); have HX := Lib.hid (HX.out.frame m); have HY := Lib.hid (HY.out.frame m); clear m
    go_wp2_with fail
    refine (gradeOf_is O2.out Hlen2.out.symm rfl _ _ _ _ _ _ _ (HX.out.take _) HY.out).mono ?_; rintro e w3 ⟨rfl, m⟩
    have M := Lib.hid (M.out.trans m); have HX := Lib.hid (HX.out.frame m); clear m HY
    go_wp2_with fail
    refine (gradeCheck_is Hc2.out Hlen2.out.symm _ _ _ _ (HX.out.take _)).mono ?_; rintro e w4 ⟨rfl, m⟩
    have M := Lib.hid (M.out.trans m); clear m HX
    go_wp2_with fail
    refine (AW _).mono ?_; rintro e w9 ⟨rfl, m⟩; have M := Lib.hid (M.out.trans m); clear m
    go_wp2
    go_ret
    exact ⟨rfl, M.out⟩
  · have O1 := Lib.hid o1
    have O2 := Lib.hid o2
    have hne : (x == (l.length : Int) - 1) = false := by simpa using h0
    clear o1 o2 h2 hlen2
    go_enter Try.func9, Try.ntmps9
    go_wp2_with fail
    refine (gradeCheck_is Hc.out rfl _ _ _ _ HX.out).mono ?_; rintro e w1 ⟨rfl, m⟩
    have M := Lib.hid (M.out.trans m); have HX := Lib.hid (HX.out.frame m); have HY := Lib.hid (HY.out.frame m); clear m
    go_wp2_with fail
    refine (gradeOf_is O1.out rfl rfl _ _ _ _ _ _ _ HX.out HY.out).mono ?_; rintro e w2 ⟨rfl, m⟩
    have M := Lib.hid (M.out.trans m); have HX := Lib.hid (HX.out.frame m); have HY := Lib.hid (HY.out.frame m); clear m
    go_wp2_with fail
    refine (gradeOf_is O2.out Hlen2.out.symm rfl _ _ _ _ _ _ _ (HX.out.take _) HY.out).mono ?_; rintro e w3 ⟨rfl, m⟩
    have M := Lib.hid (M.out.trans m); have HX := Lib.hid (HX.out.frame m); clear m HY
    go_wp2_with fail
    refine (gradeCheck_is Hc2.out Hlen2.out.symm _ _ _ _ (HX.out.take _)).mono ?_; rintro e w4 ⟨rfl, m⟩
    have M := Lib.hid (M.out.trans m); clear m HX
    go_wp2_with fail
    refine (AW _).mono ?_; rintro e w9 ⟨rfl, m⟩; have M := Lib.hid (M.out.trans m); clear m
    go_wp2
    go_ret
    exact ⟨rfl, M.out⟩

end Go.Proofs.Ytoneoeckilaglaa
