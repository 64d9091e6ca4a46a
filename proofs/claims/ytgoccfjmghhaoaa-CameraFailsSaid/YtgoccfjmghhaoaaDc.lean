/-
  The law CameraFails walked.
-/
import Derived.Test.YtgoccfjmghhaoaaDb
set_option linter.unusedVariables false
set_option linter.unusedSimpArgs false
namespace Go.Proofs.Ytgoccfjmghhaoaa
open Go.RowKit

set_option maxRecDepth 100000 in
set_option maxHeartbeats 3200000 in
theorem camFails_fin (a : Option Addr) (c : Nat) (l : List (List Int)) {w : World} (hx : Mixes Any w a l) (_ : l.length ≤ c) (_ : ∀ k y, y ∈ rx l k → I64 y) (a2 : Option Addr) (c2 : Nat) (xs : List Int) (hp : Ints Any w a2 xs) (_ : xs.length ≤ c2) (_ : ∀ x ∈ xs, I64 x) (a3 : Option Addr) (c3 : Nat) (ys : List Int) (hq : Ints Any w a3 ys) (_ : ys.length ≤ c3) (_ : ∀ x ∈ ys, I64 x) (_ : World) :
    Calls Try.prog 9 #[.agg #[.slice a l.length c], .slice a2 xs.length c2, .slice a3 ys.length c3] w fun e w' => e = .returned (.bool true) ∧ Mod NoBlock w w' := by
  have m0 := (Mod.refl NoBlock w).alloc (.cells #[.slice a l.length c] 24)
  have HX := Lib.hid (hx.frame m0)
  have HPw := Lib.hid (hp.mono (D' := fun b => b < w.heap.size) fun b hb _ => hb)
  have HQw := Lib.hid (hq.mono (D' := fun b => b < w.heap.size) fun b hb _ => hb)
  have M := Lib.hid m0
  have hB := cell_new w #[.slice a l.length c] 24 0 _ rfl
  have hbw : w.heap.size < (w.alloc (.cells #[.slice a l.length c] 24)).heap.size := by simp
  have hlp := hp.1
  have hlq := hq.1
  have hll := hx.1
  unfold maxLen at hlp hlq hll
  clear hx hp hq m0
  go_enter Try.func9, Try.ntmps9
  go_wp2_with fail
  generalize w.alloc (.cells #[.slice a l.length c] 24) = w0 at HX M hB hbw ⊢
  refine (great_some _ _ _ _ _ HX.out).mono ?_
  rintro e w1 ⟨b, rfl, m1⟩
  replace hbw := Nat.lt_of_lt_of_le hbw m1.size
  replace M := Lib.hid (M.out.trans m1); replace HX := Lib.hid (HX.out.frame m1); replace hB := m1.cell hB id; clear m1
  have AW := Lib.hid awakeC_any
  cases b
  · by_cases h30 : 30 < (xs.length : Int) ∨ (¬ 30 < (xs.length : Int) ∧ 30 < (ys.length : Int))
    · clear hB HX
      rcases h30 with q | ⟨q, q2⟩
      all_goals
        go_wp2_with fail
        refine (AW.out _).mono ?_; rintro e w9 ⟨rfl, m⟩; have M := Lib.hid (M.out.trans m); clear m
        go_wp2
        go_ret
        exact ⟨rfl, M.out⟩
    · have q1 : ¬ 30 < (xs.length : Int) := by omega
      have q2 : ¬ 30 < (ys.length : Int) := by omega
      clear h30
      go_wp2_with fail
      refine (seeNil_any _ _).mono ?_
      rintro e w2 ⟨rfl, rfl⟩
      by_cases h : camE l l.length = 0
      · have H := Lib.hid h
        have Hok := Lib.hid (EyeOk.new h)
        clear h
        go_wp2_with fail
        refine (camNew_ok _ _ _ _ _ _ HX.out H.out).mono ?_
        rintro e w2 ⟨p, rfl, m1, he⟩
        obtain ⟨lo, hlo⟩ : ∃ lo, w1.heap.size = lo := ⟨_, rfl⟩
        obtain ⟨hi, hhi⟩ : ∃ hi, w2.heap.size = hi := ⟨_, rfl⟩
        rw [hlo, hhi] at he
        have hlh : lo ≤ hi := by rw [← hlo, ← hhi]; exact m1.size
        replace hbw : w.heap.size < lo := by omega
        have HY := Lib.hid he
        replace M := Lib.hid (M.out.trans m1); replace HX := Lib.hid (HX.out.frame m1); replace hB := m1.cell hB id; clear m1 he hlo
        go_wp2_with fail
        refine (camNew_ok _ _ _ _ _ _ HX.out H.out).mono ?_
        rintro e w3 ⟨p2, rfl, m1, he⟩
        rw [hhi] at he
        obtain ⟨hi2, hhi2⟩ : ∃ hi2, w3.heap.size = hi2 := ⟨_, rfl⟩
        rw [hhi2] at he
        have hlh2 : hi ≤ hi2 := by rw [← hhi, ← hhi2]; exact m1.size
        have HZ := Lib.hid he
        replace HY := Lib.hid (HY.out.frame m1)
        have hs3 : hi2 ≤ w3.heap.size := by omega
        replace M := Lib.hid (M.out.trans m1); clear m1 he hhi hhi2 HX hB
        by_cases hb : seeE l.length ys = 0
        · have HE := Lib.hid hb
          clear hb
          go_wp2_with fail
          refine (see_any lo hi p l (zeros l) a3 c3 ys (fun b => b < w.heap.size) w3 HY.out (HQw.out.frame M.out) Hok.out (fun b h => by omega) (by omega)).mono ?_
          rw [HE.out]
          rintro e w4 ⟨al, cl, rfl, m, -, -⟩
          replace M := Lib.hid (M.out.step m fun b hb h => by omega)
          clear m HY HZ
          go_wp2_with fail
          refine (AW.out _).mono ?_; rintro e w9 ⟨rfl, m⟩; have M := Lib.hid (M.out.trans m); clear m
          go_wp2
          go_ret
          exact ⟨rfl, M.out⟩
        · have HE := Lib.hid hb
          have hne : (seeE l.length ys == 0) = false := by simpa using hb
          clear hb
          go_wp2_with fail
          refine (see_bad lo hi p l (zeros l) a3 c3 ys (fun b => b < w.heap.size) w3 HY.out (HQw.out.frame M.out) Hok.out.few HE.out).mono ?_
          rintro e w4 ⟨rfl, m⟩
          have hs4 : hi2 ≤ w4.heap.size := Nat.le_trans hs3 m.size
          replace M := Lib.hid (M.out.trans m); replace HY := Lib.hid (HY.out.frame m); replace HZ := Lib.hid (HZ.out.frame m)
          clear m hs3
          obtain ⟨G, hG⟩ : ∃ G, seeE l.length xs = G := ⟨_, rfl⟩
          go_wp2_with fail
          refine (see_any lo hi p l (zeros l) a2 c2 xs (fun b => b < w.heap.size) w4 HY.out (HPw.out.frame M.out) Hok.out (fun b h => by omega) (by omega)).mono ?_
          rw [hG]
          rintro e w5 ⟨al, cl, rfl, m, -, hl⟩
          have hs5 : hi2 ≤ w5.heap.size := Nat.le_trans hs4 m.size
          replace M := Lib.hid (M.out.step m fun b hb h => by omega); replace HZ := Lib.hid (HZ.out.mod m fun b h1 h2 h3 => by omega)
          have HL := Lib.hid (hl.mono (D' := fun b => hi2 ≤ b) fun b _ h => by have h : w4.heap.size ≤ b := h; omega)
          clear m hl HY hs4
          go_wp2_with fail
          refine (see_any hi hi2 p2 l (zeros l) a2 c2 xs (fun b => b < w.heap.size) w5 HZ.out (HPw.out.frame M.out) Hok.out (fun b h => by omega) hs5).mono ?_
          rw [hG]
          rintro e w6 ⟨am, cm, rfl, m, -, hl⟩
          replace M := Lib.hid (M.out.step m fun b hb h => by omega); replace HL := Lib.hid (HL.out.mod m fun b _ h h2 => by omega)
          have HM := Lib.hid hl
          clear m hl HZ hs5 hG
          go_wp2_with fail
          refine (sameAll_any _ _ cl cm (seeM l (zeros l) xs) (seeM l (zeros l) xs) _ _ _ HL.out HM.out).mono ?_
          rw [decide_eq_true (rfl : seeM l (zeros l) xs = seeM l (zeros l) xs)]
          rintro e w7 ⟨rfl, m⟩
          have m := (Mod.refl NoBlock w6).drawn m
          replace M := Lib.hid (M.out.trans m); clear m HL HM
          go_wp2_with fail
          refine (AW.out _).mono ?_; rintro e w9 ⟨rfl, m⟩; have M := Lib.hid (M.out.trans m); clear m
          go_wp2
          go_ret
          exact ⟨rfl, M.out⟩
      · have H := Lib.hid h
        have hne : (camE l l.length != 0) = true := by simpa using h
        clear h
        go_wp2_with fail
        refine (camNew_bad _ _ _ _ _ _ HX.out H.out).mono ?_
        rintro e w2 ⟨rfl, m1⟩
        replace M := Lib.hid (M.out.trans m1); replace HX := Lib.hid (HX.out.frame m1); replace hB := m1.cell hB id; clear m1
        go_wp2_with fail
        refine (camNew_bad _ _ _ _ _ _ HX.out H.out).mono ?_
        rintro e w3 ⟨rfl, m1⟩
        replace M := Lib.hid (M.out.trans m1); clear m1 HX hB
        go_wp2_with fail
        refine (AW.out _).mono ?_; rintro e w9 ⟨rfl, m⟩; have M := Lib.hid (M.out.trans m); clear m
        go_wp2
        go_ret
        exact ⟨rfl, M.out⟩
  · clear hB HX
    go_wp2_with fail
    refine (AW.out _).mono ?_; rintro e w9 ⟨rfl, m⟩; have M := Lib.hid (M.out.trans m); clear m
    go_wp2
    go_ret
    exact ⟨rfl, M.out⟩

end Go.Proofs.Ytgoccfjmghhaoaa
