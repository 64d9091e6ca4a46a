/-
  The law CameraLikes walked.
-/
import Derived.Test.YtgoccfjmghhaoaaCw
import Derived.Test.YtgoccfjmghhaoaaOpen
set_option linter.unusedVariables false
set_option linter.unusedSimpArgs false
namespace Go.Proofs.Ytgoccfjmghhaoaa
open Go.RowKit

set_option maxRecDepth 100000 in
set_option maxHeartbeats 1600000 in
theorem camLikes_fin (a : Option Addr) (c : Nat) (l : List (List Int)) {w : World} (hx : Mixes Any w a l) (_ : l.length ≤ c) (_ : ∀ k y, y ∈ rx l k → I64 y) (a2 : Option Addr) (c2 : Nat) (p : List Int) (hp : Ints Any w a2 p) (_ : p.length ≤ c2) (_ : ∀ x ∈ p, I64 x) (x : Int) (_ : I64 x) (y : Int) (_ : I64 y) (_ : World) :
    Calls Try.prog 5 #[.agg #[.slice a l.length c], .slice a2 p.length c2, .agg #[.int .i64 x, .int .i64 y]] w fun e w' => e = .returned (.bool true) ∧ Mod NoBlock w w' := by
  have m0 := ((Mod.refl NoBlock w).alloc (.cells #[.slice a l.length c] 24)).alloc (.cells #[.int .i64 x, .int .i64 y] 47)
  have HX := Lib.hid (hx.frame m0)
  have HP := Lib.hid (hp.frame m0)
  have M := Lib.hid m0
  have hB : ((w.alloc (.cells #[.slice a l.length c] 24)).alloc (.cells #[.int .i64 x, .int .i64 y] 47)).cell? ⟨w.heap.size, 0, none⟩ = some (.slice a l.length c) := ((Mod.refl NoBlock _).alloc _).cell (cell_new w #[.slice a l.length c] 24 0 _ rfl) id
  have hC0 := cell_new (w.alloc (.cells #[.slice a l.length c] 24)) #[.int .i64 x, .int .i64 y] 47 0 _ rfl
  have hC1 := cell_new (w.alloc (.cells #[.slice a l.length c] 24)) #[.int .i64 x, .int .i64 y] 47 1 _ rfl
  rw [World.size_alloc] at hC0 hC1
  have hC0 : ((w.alloc (.cells #[.slice a l.length c] 24)).alloc (.cells #[.int .i64 x, .int .i64 y] 47)).cell? ⟨w.heap.size + 1, 0, none⟩ = some (.int .i64 x) := hC0
  have hC1 : ((w.alloc (.cells #[.slice a l.length c] 24)).alloc (.cells #[.int .i64 x, .int .i64 y] 47)).cell? ⟨w.heap.size + 1, 1, none⟩ = some (.int .i64 y) := hC1
  have hlp := hp.1
  unfold maxLen at hlp
  clear hx hp m0
  go_enter Try.func5, Try.ntmps5
  go_wp2_with fail
  generalize (w.alloc (.cells #[.slice a l.length c] 24)).alloc (.cells #[.int .i64 x, .int .i64 y] 47) = w0 at HX HP M hB hC0 hC1 ⊢
  refine (great_some _ _ _ _ _ HX.out).mono ?_
  rintro e w1 ⟨b, rfl, m1⟩
  replace M := Lib.hid (M.out.trans m1); replace HX := Lib.hid (HX.out.frame m1); replace HP := Lib.hid (HP.out.frame m1); replace hB := m1.cell hB id; replace hC0 := m1.cell hC0 id; replace hC1 := m1.cell hC1 id; clear m1
  cases b
  · by_cases h30 : 30 < (p.length : Int)
    · clear hB HX HP hC0 hC1
      go_wp2_with fail
      refine (awakeC_any _).mono ?_; rintro e w9 ⟨rfl, m⟩; have M := Lib.hid (M.out.trans m); clear m
      go_wp2
      go_ret
      exact ⟨rfl, M.out⟩
    · obtain ⟨L, hL⟩ : ∃ L, likL l p x = L := ⟨_, rfl⟩
      obtain ⟨R, hR⟩ : ∃ R, purM l p x y = R := ⟨_, rfl⟩
      go_wp2_with fail
      refine (likely_any _ _ _ _ _ _ _ _ _ _ HX.out HP.out).mono ?_
      rw [hL]
      rintro e w2 ⟨rfl, m1⟩
      replace M := Lib.hid (M.out.trans m1); replace HX := Lib.hid (HX.out.frame m1); replace HP := Lib.hid (HP.out.frame m1); replace hB := m1.cell hB id; replace hC0 := m1.cell hC0 id; replace hC1 := m1.cell hC1 id; clear m1
      go_wp2_with fail
      refine (refLikely_any _ _ _ _ _ _ _ _ _ _ HX.out HP.out).mono ?_
      rw [hL]
      rintro e w3 ⟨rfl, m1⟩
      replace M := Lib.hid (M.out.trans m1); replace HX := Lib.hid (HX.out.frame m1); replace HP := Lib.hid (HP.out.frame m1); replace hB := m1.cell hB id; replace hC0 := m1.cell hC0 id; replace hC1 := m1.cell hC1 id; clear m1
      go_wp2_with fail
      refine (purity_any _ _ _ _ _ _ _ _ _ _ _ HX.out HP.out).mono ?_
      rw [hR]
      rintro e w4 ⟨rfl, m1⟩
      replace M := Lib.hid (M.out.trans m1); replace HX := Lib.hid (HX.out.frame m1); replace HP := Lib.hid (HP.out.frame m1); replace hB := m1.cell hB id; replace hC0 := m1.cell hC0 id; replace hC1 := m1.cell hC1 id; clear m1
      go_wp2_with fail
      refine (refPurity_any _ _ _ _ _ _ _ _ _ _ _ HX.out HP.out).mono ?_
      rw [hR]
      rintro e w5 ⟨rfl, m1⟩
      replace M := Lib.hid (M.out.trans m1); clear m1 HX HP hB hC0 hC1 hL hR
      obtain ⟨L1, L2⟩ := L
      obtain ⟨R1, R2⟩ := R
      go_wp2_with fail
      refine (awakeC_any _).mono ?_; rintro e w9 ⟨rfl, m⟩; have M := Lib.hid (M.out.trans m); clear m
      go_wp2
      go_ret
      exact ⟨rfl, M.out⟩
  · clear hB HX HP hC0 hC1
    go_wp2_with fail
    refine (awakeC_any _).mono ?_; rintro e w9 ⟨rfl, m⟩; have M := Lib.hid (M.out.trans m); clear m
    go_wp2
    go_ret
    exact ⟨rfl, M.out⟩

end Go.Proofs.Ytgoccfjmghhaoaa
