/-
  The laws MaterialAdds, MaterialTotals, MaterialDivides, MaterialBack walked.
-/
import Derived.Test.YtghciackhkimoaaVt
import Derived.Test.YtghciackhkimoaaOpen
set_option linter.unusedVariables false
set_option linter.unusedSimpArgs false
namespace Go.Proofs.Ytghciackhkimoaa
open Go.RowKit

theorem rsame_self (a1 a2 : Option Addr) (n c1 c2 : Nat) (xs : List Int) (D1 D2 : Nat → Prop) (w : World) (hn : xs.length = n) (hx : Ints D1 w a1 xs) (hy : Ints D2 w a2 xs) :
    Calls Try.prog 19 #[.slice a1 n c1, .slice a2 n c2] w fun e w' => e = .returned (.bool true) ∧ Mod NoBlock w w' := by
  subst hn
  refine (rsame_any a1 a2 c1 c2 xs xs D1 D2 w hx hy).mono fun e w' ⟨h1, h2⟩ => ⟨?_, (Mod.refl _ _).drawn h2⟩
  rw [h1, decide_eq_true rfl]
theorem sameAll_self (a1 a2 : Option Addr) (n c1 c2 : Nat) (xs : List (List Int)) (D1 D2 : Nat → Prop) (w : World) (hn : xs.length = n) (hx : Mixes D1 w a1 xs) (hy : Mixes D2 w a2 xs) :
    Calls Try.prog 30 #[.slice a1 n c1, .slice a2 n c2] w fun e w' => e = .returned (.bool true) ∧ Mod NoBlock w w' := by
  subst hn
  refine (sameAll_any a1 a2 c1 c2 xs xs D1 D2 w hx hy).mono fun e w' ⟨h1, h2⟩ => ⟨?_, (Mod.refl _ _).drawn h2⟩
  rw [h1, decide_eq_true rfl]

set_option maxRecDepth 100000 in
set_option maxHeartbeats 1600000 in
theorem materialAdds_fin (a : Option Addr) (c : Nat) (xs : List Int) {w : World} (hx : Ints Any w a xs) (_ : xs.length ≤ c) (_ : ∀ x ∈ xs, I64 x) (a2 : Option Addr) (c2 : Nat) (ys : List Int) (hy : Ints Any w a2 ys) (_ : ys.length ≤ c2) (_ : ∀ x ∈ ys, I64 x) (_ : World) :
    Calls Try.prog 4 #[.slice a xs.length c, .slice a2 ys.length c2] w fun e w' => e = .returned (.bool true) ∧ Mod NoBlock w w' := by
  have M := Lib.hid (Mod.refl NoBlock w)
  have HX := Lib.hid hx
  have HY := Lib.hid hy
  have hlx := hx.1
  have hly := hy.1
  clear hx hy
  by_cases h1 : 40 < xs.length
  · have H1 := Lib.hid (decide_eq_true h1)
    have Hlx := Lib.hid hlx
    clear h1 hlx hly
    go_enter Try.func4, Try.ntmps4
    go_wp2_with (first
      | (go_at_call 14; refine (great_any _ _ _ _ Hlx.out).mono ?_; rintro e w1 ⟨rfl, rfl⟩; rw [H1.out])
      | (go_at_call 11; refine (awake_any _).mono ?_; rintro e w5 ⟨rfl, m⟩; have M := Lib.hid (M.out.trans m); clear m))
    go_ret
    exact ⟨rfl, M.out⟩
  by_cases h2 : 40 < ys.length
  · have H1 := Lib.hid (decide_eq_false h1)
    have H2 := Lib.hid (decide_eq_true h2)
    have Hlx := Lib.hid hlx
    have Hly := Lib.hid hly
    clear h1 h2 hlx hly
    go_enter Try.func4, Try.ntmps4
    go_wp2_with fail
    refine (great_any _ _ _ _ Hlx.out).mono ?_; rintro e w1 ⟨rfl, rfl⟩; rw [H1.out]
    go_wp2_with fail
    refine (great_any _ _ _ _ Hly.out).mono ?_; rintro e w1 ⟨rfl, rfl⟩; rw [H2.out]
    go_wp2_with fail
    refine (awake_any _).mono ?_; rintro e w5 ⟨rfl, m⟩; have M := Lib.hid (M.out.trans m); clear m
    go_wp2
    go_ret
    exact ⟨rfl, M.out⟩
  · have H1 := Lib.hid (decide_eq_false h1)
    have H2 := Lib.hid (decide_eq_false h2)
    have Hlx := Lib.hid hlx
    have Hly := Lib.hid hly
    clear h1 h2 hlx hly
    go_enter Try.func4, Try.ntmps4
    go_wp2_with fail
    refine (great_any _ _ _ _ Hlx.out).mono ?_; rintro e w1 ⟨rfl, rfl⟩; rw [H1.out]
    go_wp2_with fail
    refine (great_any _ _ _ _ Hly.out).mono ?_; rintro e w1 ⟨rfl, rfl⟩; rw [H2.out]
    go_wp2_with fail
    refine (matAdd_any _ _ _ _ _ _ _ _ _ HX.out HY.out).mono ?_; rintro e w1 ⟨b1, d1, rfl, m, hs⟩
    have M := Lib.hid (M.out.trans m); have HX := Lib.hid (HX.out.frame m); have HY := Lib.hid (HY.out.frame m); have HS := Lib.hid hs; clear m hs
    go_wp2_with fail
    refine (radd_any _ _ _ _ _ _ _ _ _ HX.out HY.out).mono ?_; rintro e w2 ⟨b2, d2, rfl, m, hs⟩
    have M := Lib.hid (M.out.trans m); have HX := Lib.hid (HX.out.frame m); have HY := Lib.hid (HY.out.frame m); have HS := Lib.hid (HS.out.frame m); have HS2 := Lib.hid hs; clear m hs
    generalize hA : addL xs ys = A at HS HS2 ⊢
    clear hA
    go_wp2_with fail
    refine (matSub_any _ _ _ _ _ _ _ _ _ HX.out HY.out).mono ?_; rintro e w3 ⟨b3, d3, rfl, m, hs⟩
    have M := Lib.hid (M.out.trans m); have HX := Lib.hid (HX.out.frame m); have HY := Lib.hid (HY.out.frame m); have HS := Lib.hid (HS.out.frame m); have HS2 := Lib.hid (HS2.out.frame m); have HT := Lib.hid hs; clear m hs
    go_wp2_with fail
    refine (rsub_any _ _ _ _ _ _ _ _ _ HX.out HY.out).mono ?_; rintro e w4 ⟨b4, d4, rfl, m, hs⟩
    have M := Lib.hid (M.out.trans m); have HS := Lib.hid (HS.out.frame m); have HS2 := Lib.hid (HS2.out.frame m); have HT := Lib.hid (HT.out.frame m); have HT2 := Lib.hid hs; clear m hs HX HY
    generalize hB : subL xs ys = B at HT HT2 ⊢
    clear hB
    obtain ⟨A1, A2⟩ := A
    obtain ⟨B1, B2⟩ := B
    go_wp2_with fail
    refine (rsame_self _ _ _ _ _ _ _ _ _ rfl HS.out HS2.out).mono ?_; rintro e w5 ⟨rfl, m⟩
    have M := Lib.hid (M.out.trans m); have HT := Lib.hid (HT.out.frame m); have HT2 := Lib.hid (HT2.out.frame m); clear m
    go_wp2_with fail
    refine (rsame_self _ _ _ _ _ _ _ _ _ rfl HT.out HT2.out).mono ?_; rintro e w6 ⟨rfl, m⟩
    have M := Lib.hid (M.out.trans m); clear m
    go_wp2_with fail
    refine (awake_any _).mono ?_; rintro e w7 ⟨rfl, m⟩; have M := Lib.hid (M.out.trans m); clear m
    go_wp2
    go_ret
    exact ⟨rfl, M.out⟩

set_option maxRecDepth 100000 in
set_option maxHeartbeats 1600000 in
theorem materialTotals_fin (a : Option Addr) (c : Nat) (xs : List Int) {w : World} (hx : Ints Any w a xs) (_ : xs.length ≤ c) (_ : ∀ x ∈ xs, I64 x) (i : Int) (_ : I64 i) (n : Int) (_ : I64 n) (_ : World) :
    Calls Try.prog 5 #[.slice a xs.length c, .int .i64 i, .int .i64 n] w fun e w' => e = .returned (.bool true) ∧ Mod NoBlock w w' := by
  have M := Lib.hid (Mod.refl NoBlock w)
  have HX := Lib.hid hx
  have Hlx := Lib.hid hx.1
  clear hx
  by_cases h1 : 40 < xs.length
  · have H1 := Lib.hid (decide_eq_true h1)
    clear h1
    go_enter Try.func5, Try.ntmps5
    go_wp2_with fail
    refine (great_any _ _ _ _ Hlx.out).mono ?_; rintro e w1 ⟨rfl, rfl⟩; rw [H1.out]
    go_wp2_with fail
    refine (awake_any _).mono ?_; rintro e w5 ⟨rfl, m⟩; have M := Lib.hid (M.out.trans m); clear m
    go_wp2
    go_ret
    exact ⟨rfl, M.out⟩
  · have H1 := Lib.hid (decide_eq_false h1)
    clear h1
    go_enter Try.func5, Try.ntmps5
    go_wp2_with fail
    refine (great_any _ _ _ _ Hlx.out).mono ?_; rintro e w1 ⟨rfl, rfl⟩; rw [H1.out]
    go_wp2_with fail
    refine (matTotal_any _ _ _ _ _ HX.out).mono ?_; rintro e w1 ⟨rfl, m⟩
    have M := Lib.hid (M.out.trans m); have HX := Lib.hid (HX.out.frame m); clear m
    go_wp2_with fail
    refine (refTotal_any _ _ _ _ _ HX.out).mono ?_; rintro e w2 ⟨rfl, rfl⟩
    generalize totL xs = A
    obtain ⟨A1, A2⟩ := A
    go_wp2_with fail
    refine (matPurity_any _ _ _ _ _ _ HX.out).mono ?_; rintro e w3 ⟨rfl, m⟩
    have M := Lib.hid (M.out.trans m); have HX := Lib.hid (HX.out.frame m); clear m
    go_wp2_with fail
    refine (refPurity_any _ _ _ _ _ _ HX.out).mono ?_; rintro e w4 ⟨rfl, rfl⟩
    generalize purL xs i = B
    obtain ⟨B1, B2⟩ := B
    go_wp2_with fail
    refine (valid_any _ _ _ _ _ _ HX.out).mono ?_; rintro e w5 ⟨rfl, m⟩
    have M := Lib.hid (M.out.trans m); have HX := Lib.hid (HX.out.frame m); clear m
    go_wp2_with fail
    refine (rvalid_any _ _ _ _ _ _ HX.out).mono ?_; rintro e w6 ⟨rfl, rfl⟩
    generalize validL xs n = V
    go_wp2_with fail
    refine (awake_any _).mono ?_; rintro e w7 ⟨rfl, m⟩; have M := Lib.hid (M.out.trans m); clear m
    go_wp2
    go_ret
    exact ⟨rfl, M.out⟩

set_option maxRecDepth 100000 in
set_option maxHeartbeats 1600000 in
theorem materialDivides_fin (a : Option Addr) (c : Nat) (xs : List Int) {w : World} (hx : Ints Any w a xs) (_ : xs.length ≤ c) (_ : ∀ x ∈ xs, I64 x) (n : Int) (_ : I64 n) (_ : World) :
    Calls Try.prog 7 #[.slice a xs.length c, .int .i64 n] w fun e w' => e = .returned (.bool true) ∧ Mod NoBlock w w' := by
  have M := Lib.hid (Mod.refl NoBlock w)
  have HX := Lib.hid hx
  have Hlx := Lib.hid hx.1
  clear hx
  by_cases h1 : 40 < xs.length
  · have H1 := Lib.hid (decide_eq_true h1)
    clear h1
    go_enter Try.func7, Try.ntmps7
    go_wp2_with fail
    refine (great_any _ _ _ _ Hlx.out).mono ?_; rintro e w1 ⟨rfl, rfl⟩; rw [H1.out]
    go_wp2_with fail
    refine (awake_any _).mono ?_; rintro e w5 ⟨rfl, m⟩; have M := Lib.hid (M.out.trans m); clear m
    go_wp2
    go_ret
    exact ⟨rfl, M.out⟩
  · have H1 := Lib.hid (decide_eq_false h1)
    clear h1
    go_enter Try.func7, Try.ntmps7
    go_wp2_with fail
    refine (great_any _ _ _ _ Hlx.out).mono ?_; rintro e w1 ⟨rfl, rfl⟩; rw [H1.out]
    go_wp2_with fail
    refine (matDivide_any _ _ _ _ _ _ HX.out).mono ?_; rintro e w1 ⟨b1, d1, rfl, _, m, hs⟩
    have M := Lib.hid (M.out.trans m); have HX := Lib.hid (HX.out.frame m); have HS := Lib.hid hs; clear m hs
    go_wp2_with fail
    refine (refDivide_any _ _ _ _ _ _ HX.out).mono ?_; rintro e w2 ⟨b2, d2, rfl, _, m, hs⟩
    have M := Lib.hid (M.out.trans m); have HS := Lib.hid (HS.out.frame m); have HS2 := Lib.hid hs; clear m hs HX
    generalize divL xs n = A at HS HS2 ⊢
    obtain ⟨A1, A2⟩ := A
    go_wp2_with fail
    refine (sameAll_self _ _ _ _ _ _ _ _ _ rfl HS.out HS2.out).mono ?_; rintro e w5 ⟨rfl, m⟩
    have M := Lib.hid (M.out.trans m); clear m
    go_wp2_with fail
    refine (awake_any _).mono ?_; rintro e w7 ⟨rfl, m⟩; have M := Lib.hid (M.out.trans m); clear m
    go_wp2
    go_ret
    exact ⟨rfl, M.out⟩

end Go.Proofs.Ytghciackhkimoaa
