/-
  The laws MaterialChecks, MaterialLitres walked.
-/
import Derived.Test.YtghciackhkimoaaVu
import Derived.Test.YtghciackhkimoaaOpt
set_option linter.unusedVariables false
set_option linter.unusedSimpArgs false
namespace Go.Proofs.Ytghciackhkimoaa
open Go.RowKit

set_option maxRecDepth 100000 in
set_option maxHeartbeats 1600000 in
theorem materialChecks_fin (a : Option Addr) (c : Nat) (l : List (ByteArray × Int)) {w : World} (hx : Mats Any w a l) (hcap : l.length ≤ c) (_ : World) :
    Calls Try.prog 3 #[.slice a l.length c] w fun e w' => e = .returned (.bool true) ∧ Mod NoBlock w w' := by
  have M := Lib.hid (Mod.refl NoBlock w)
  have HX := Lib.hid hx
  obtain ⟨lx, b, o, ha, hc⟩ := hx.open
  have Ha := Lib.hid ha
  have Hc := Lib.hid hc
  have Hcap := Lib.hid hcap
  clear hx ha hc hcap
  by_cases h1 : 40 < l.length
  · go_enter Try.func3, Try.ntmps3
    go_wp2_with (go_at_call 11; refine (awake_any _).mono ?_; rintro e w5 ⟨rfl, m⟩; have M := Lib.hid (M.out.trans m); clear m)
    go_ret
    exact ⟨rfl, M.out⟩
  · go_enter Try.func3, Try.ntmps3
    go_wp2
    go_loop [3] (fun i => ∃ k : Nat, k ≤ l.length ∧ i = .int .i64 k) (fun i => l.length - (intOf i).toNat)
    case atStart => exact ⟨0, by omega, rfl⟩
    case round =>
      obtain ⟨k, hk, rfl⟩ := hrel
      by_cases hlt : k < l.length
      · have h2 := (Hc.out k hlt).1
        obtain rfl := Ha.out (by intro h; simp [h] at hlt)
        generalize (mx l k).1 = nm at *
        have q1 : (0 : Int) ≤ (k : Int) := by omega
        have q2 : (k : Int) < (l.length : Int) := by omega
        by_cases hbig : 200 < nm.size
        · have hd : decide ((200 : Int) < nm.size) = true := decide_eq_true (by omega)
          go_wp2_with (go_at_call 11; refine (awake_any _).mono ?_; rintro e w5 ⟨rfl, m⟩; have M := Lib.hid (M.out.trans m); clear m)
          go_ret
          exact ⟨rfl, M.out⟩
        · have hd : decide ((200 : Int) < nm.size) = false := decide_eq_false (by omega)
          go_wp2
          exact ⟨⟨k + 1, by omega, by go_num⟩, by simp [intOf]; omega⟩
      · go_wp2_with fail
        refine (matCheck_any _ _ _ _ _ HX.out Hcap.out).mono ?_; rintro e w1 ⟨rfl, m⟩
        have M := Lib.hid (M.out.trans m); have HX := Lib.hid (HX.out.frame m); clear m
        go_wp2_with fail
        refine (refCheck_any _ _ _ _ _ HX.out).mono ?_; rintro e w2 ⟨rfl, m⟩
        have M := Lib.hid (M.out.drawn m); clear m
        generalize checkM l = A
        go_wp2_with fail
        refine (awake_any _).mono ?_; rintro e w5 ⟨rfl, m⟩; have M := Lib.hid (M.out.trans m); clear m
        go_wp2
        go_ret
        exact ⟨rfl, M.out⟩

set_option maxRecDepth 100000 in
set_option maxHeartbeats 1600000 in
theorem materialLitres_fin (a : Option Addr) (c : Nat) (l : List (ByteArray × Int)) {w : World} (hx : Mats Any w a l) (hcap : l.length ≤ c) (a2 : Option Addr) (c2 : Nat) (ys : List Int) (hy : Ints Any w a2 ys) (_ : ys.length ≤ c2) (_ : ∀ x ∈ ys, I64 x) (_ : World) :
    Calls Try.prog 6 #[.slice a l.length c, .slice a2 ys.length c2] w fun e w' => e = .returned (.bool true) ∧ Mod NoBlock w w' := by
  have M := Lib.hid (Mod.refl NoBlock w)
  have HX := Lib.hid hx
  have HY := Lib.hid hy
  have Hly := Lib.hid hy.1
  obtain ⟨lx, b, o, ha, hc⟩ := hx.open
  have Ha := Lib.hid ha
  have Hc := Lib.hid hc
  have Hcap := Lib.hid hcap
  clear hx ha hc hcap hy
  by_cases h1 : 40 < l.length
  · go_enter Try.func6, Try.ntmps6
    go_wp2_with (go_at_call 11; refine (awake_any _).mono ?_; rintro e w5 ⟨rfl, m⟩; have M := Lib.hid (M.out.trans m); clear m)
    go_ret
    exact ⟨rfl, M.out⟩
  by_cases h2 : 40 < ys.length
  · have H2 := Lib.hid (decide_eq_true h2)
    clear h2
    go_enter Try.func6, Try.ntmps6
    go_wp2_with fail
    refine (great_any _ _ _ _ Hly.out).mono ?_; rintro e w1 ⟨rfl, rfl⟩; rw [H2.out]
    go_wp2_with fail
    refine (awake_any _).mono ?_; rintro e w5 ⟨rfl, m⟩; have M := Lib.hid (M.out.trans m); clear m
    go_wp2
    go_ret
    exact ⟨rfl, M.out⟩
  · have H2 := Lib.hid (decide_eq_false h2)
    clear h2
    go_enter Try.func6, Try.ntmps6
    go_wp2_with fail
    refine (great_any _ _ _ _ Hly.out).mono ?_; rintro e w1 ⟨rfl, rfl⟩; rw [H2.out]
    go_wp2
    go_loop [5] (fun i => ∃ k : Nat, k ≤ l.length ∧ i = .int .i64 k) (fun i => l.length - (intOf i).toNat)
    case atStart => exact ⟨0, by omega, rfl⟩
    case round =>
      obtain ⟨k, hk, rfl⟩ := hrel
      by_cases hlt : k < l.length
      · have h2 := (Hc.out k hlt).1
        obtain rfl := Ha.out (by intro h; simp [h] at hlt)
        generalize (mx l k).1 = nm at *
        have q1 : (0 : Int) ≤ (k : Int) := by omega
        have q2 : (k : Int) < (l.length : Int) := by omega
        by_cases hbig : 200 < nm.size
        · have hd : decide ((200 : Int) < nm.size) = true := decide_eq_true (by omega)
          go_wp2_with (go_at_call 11; refine (awake_any _).mono ?_; rintro e w5 ⟨rfl, m⟩; have M := Lib.hid (M.out.trans m); clear m)
          go_ret
          exact ⟨rfl, M.out⟩
        · have hd : decide ((200 : Int) < nm.size) = false := decide_eq_false (by omega)
          go_wp2
          exact ⟨⟨k + 1, by omega, by go_num⟩, by simp [intOf]; omega⟩
      · go_wp2_with fail
        refine (matLitres_any _ _ _ _ _ _ _ _ _ HX.out Hcap.out HY.out).mono ?_; rintro e w1 ⟨rfl, m⟩
        have M := Lib.hid (M.out.trans m); have HX := Lib.hid (HX.out.frame m); have HY := Lib.hid (HY.out.frame m); clear m
        go_wp2_with fail
        refine (refLitres_any _ _ _ _ _ _ _ _ _ HX.out HY.out).mono ?_; rintro e w2 ⟨rfl, m⟩
        have M := Lib.hid (M.out.drawn m); clear m
        generalize litL l ys = A
        obtain ⟨A1, A2⟩ := A
        go_wp2_with fail
        refine (awake_any _).mono ?_; rintro e w5 ⟨rfl, m⟩; have M := Lib.hid (M.out.trans m); clear m
        go_wp2
        go_ret
        exact ⟨rfl, M.out⟩

end Go.Proofs.Ytghciackhkimoaa
