/-
  The law CameraChecks walked.
-/
import Derived.Test.YtgoccfjmghhaoaaCw
import Derived.Test.YtgoccfjmghhaoaaOpen
set_option linter.unusedVariables false
set_option linter.unusedSimpArgs false
namespace Go.Proofs.Ytgoccfjmghhaoaa
open Go.RowKit

set_option maxRecDepth 100000 in
set_option maxHeartbeats 1600000 in
theorem camChecks_fin (a : Option Addr) (c : Nat) (l : List (List Int)) {w : World} (hx : Mixes Any w a l) (_ : l.length ≤ c) (_ : ∀ k y, y ∈ rx l k → I64 y) (m : Int) (_ : I64 m) (_ : World) :
    Calls Try.prog 3 #[.agg #[.slice a l.length c], .int .i64 m] w fun e w' => e = .returned (.bool true) ∧ Mod NoBlock w w' := by
  have m0 := (Mod.refl NoBlock w).alloc (.cells #[.slice a l.length c] 24)
  have HX := Lib.hid (hx.frame m0)
  have M := Lib.hid m0
  have hB := cell_new w #[.slice a l.length c] 24 0 _ rfl
  clear hx m0
  go_enter Try.func3, Try.ntmps3
  go_wp2_with fail
  generalize w.alloc (.cells #[.slice a l.length c] 24) = w0 at HX M hB ⊢
  refine (great_some _ _ _ _ _ HX.out).mono ?_
  rintro e w1 ⟨b, rfl, m1⟩
  replace M := Lib.hid (M.out.trans m1); replace HX := Lib.hid (HX.out.frame m1); replace hB := m1.cell hB id; clear m1
  cases b
  · by_cases h : camE l m = 0
    · have H := Lib.hid h
      go_wp2_with fail
      refine (camNew_ok _ _ _ _ _ _ HX.out H.out).mono ?_
      rintro e w2 ⟨p, rfl, m1, -⟩
      replace M := Lib.hid (M.out.trans m1); replace HX := Lib.hid (HX.out.frame m1); replace hB := m1.cell hB id; clear m1
      go_wp2_with fail
      refine (refCam_any _ _ _ _ _ _ HX.out).mono ?_
      rw [H.out]
      rintro e w3 ⟨rfl, m1⟩
      replace M := Lib.hid (M.out.trans m1); replace HX := Lib.hid (HX.out.frame m1); replace hB := m1.cell hB id; clear m1
      go_wp2_with fail
      refine (camCheck_any _ _ _ _ _ _ HX.out).mono ?_
      rw [H.out]
      rintro e w4 ⟨rfl, m1⟩
      replace M := Lib.hid (M.out.trans m1); clear m1 hB HX
      clear h
      go_wp2_with fail
      refine (awakeC_any _).mono ?_; rintro e w9 ⟨rfl, m⟩; have M := Lib.hid (M.out.trans m); clear m
      go_wp2
      go_ret
      exact ⟨rfl, M.out⟩
    · have H := Lib.hid h
      have hne : (camE l m != 0) = true := by simpa using h
      have hEb : (camE l m == 0) = false := by simpa using h
      clear h
      go_wp2_with fail
      refine (camNew_bad _ _ _ _ _ _ HX.out H.out).mono ?_
      rintro e w2 ⟨rfl, m1⟩
      replace M := Lib.hid (M.out.trans m1); replace HX := Lib.hid (HX.out.frame m1); replace hB := m1.cell hB id; clear m1
      go_wp2_with fail
      refine (refCam_any _ _ _ _ _ _ HX.out).mono ?_
      rintro e w3 ⟨rfl, m1⟩
      replace M := Lib.hid (M.out.trans m1); replace HX := Lib.hid (HX.out.frame m1); replace hB := m1.cell hB id; clear m1
      go_wp2_with fail
      refine (camCheck_any _ _ _ _ _ _ HX.out).mono ?_
      rintro e w4 ⟨rfl, m1⟩
      replace M := Lib.hid (M.out.trans m1); clear m1 hB HX
      go_wp2_with fail
      refine (awakeC_any _).mono ?_; rintro e w9 ⟨rfl, m⟩; have M := Lib.hid (M.out.trans m); clear m
      go_wp2
      go_ret
      exact ⟨rfl, M.out⟩
  · clear hB HX
    go_wp2_with fail
    refine (awakeC_any _).mono ?_; rintro e w9 ⟨rfl, m⟩; have M := Lib.hid (M.out.trans m); clear m
    go_wp2
    go_ret
    exact ⟨rfl, M.out⟩

end Go.Proofs.Ytgoccfjmghhaoaa
