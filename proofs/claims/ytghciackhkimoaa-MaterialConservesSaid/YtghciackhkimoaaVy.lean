/-
  The law MaterialConserves walked.
-/
import Derived.Test.YtghciackhkimoaaVx
set_option linter.unusedVariables false
set_option linter.unusedSimpArgs false
namespace Go.Proofs.Ytghciackhkimoaa
open Go.RowKit

theorem add_n (a1 a2 : Option Addr) (n c1 c2 : Nat) (xs ys : List Int) (w : World) (h1 : xs.length = n) (h2 : ys.length = n) (D1 : Nat → Prop) (hx : Ints D1 w a1 xs) (D2 : Nat → Prop) (hy : Ints D2 w a2 ys) :
    Calls Try.prog 15 #[.slice a1 n c1, .slice a2 n c2] w (ListErr (addL xs ys) w) := by
  have := matAdd_any a1 a2 c1 c2 xs ys D1 D2 w hx hy
  rw [h1, h2] at this
  exact this
theorem total_n (a : Option Addr) (n c : Nat) (xs : List Int) (w : World) (h1 : xs.length = n) (D : Nat → Prop) (hx : Ints D w a xs) :
    Calls Try.prog 20 #[.slice a n c] w fun e w' => e = .returned (.tuple #[.int .i64 (totL xs).1, .int .i64 (totL xs).2]) ∧ Mod NoBlock w w' := by
  have := matTotal_any a c xs D w hx
  rw [h1] at this
  exact this

set_option maxRecDepth 100000 in
set_option maxHeartbeats 3200000 in
theorem materialConserves_fin (a : Option Addr) (c : Nat) (xs : List Int) {w : World} (hx : Ints Any w a xs) (_ : xs.length ≤ c) (_ : ∀ x ∈ xs, I64 x) (n : Int) (_ : I64 n) (_ : World) :
    Calls Try.prog 8 #[.slice a xs.length c, .int .i64 n] w fun e w' => e = .returned (.bool true) ∧ Mod NoBlock w w' := by
  have M := Lib.hid (Mod.refl NoBlock w)
  have HX := Lib.hid hx
  have Hlx := Lib.hid hx.1
  clear hx
  by_cases h1 : 40 < xs.length
  · have H1 := Lib.hid (decide_eq_true h1)
    clear h1
    go_enter Try.func8, Try.ntmps8
    go_wp2_with fail
    refine (great_any _ _ _ _ Hlx.out).mono ?_; rintro e w1 ⟨rfl, rfl⟩; rw [H1.out]
    go_wp2_with fail
    refine (awake_any _).mono ?_; rintro e w5 ⟨rfl, m⟩; have M := Lib.hid (M.out.trans m); clear m
    go_wp2
    go_ret
    exact ⟨rfl, M.out⟩
  have H1 := Lib.hid (decide_eq_false h1)
  by_cases he : (divL xs n).2 = 0
  · obtain ⟨hf, n1, n2, hdiv⟩ := divL_good he
    obtain ⟨N, rfl⟩ : ∃ N : Nat, n = N := ⟨n.toNat, by omega⟩
    have e2 : ((N : Int)).toNat = N := by simp
    rw [e2] at hdiv
    have hN1 : 1 ≤ N := by omega
    have hN64 : N ≤ 64 := by omega
    have Hdiv := Lib.hid hdiv
    have Hf := Lib.hid hf
    have hl16 := (ok_of_fault hf).1
    obtain ⟨Q, hQ⟩ : ∃ Q, (xs.map fun x => x / (N : Int)).sum = Q := ⟨_, rfl⟩
    have HQ := Lib.hid (fun i => (hQ ▸ part_sum N i xs : Q ≤ (xs.map fun x => partN N x i).sum ∧ (xs.map fun x => partN N x i).sum ≤ Q + xs.length))
    have Hcum := Lib.hid (fun i (hi : i < N) => add_cum hf hN1 hi)
    have Htot := Lib.hid (fun i (hi : i < N) => totL_ok (fault_part hf hN1 hi))
    have Hsb := Lib.hid (fun i (hi : i < N) => sum_bound (fault_part hf hN1 hi))
    have H0 := Lib.hid (cum_zero xs hN1)
    have Hall := Lib.hid (cum_all xs hN1)
    have hmk := run_make_row' (P := Try.prog) 30 3 (.int .i64 0) 8 Try.underlying30 infoInt rfl .i64 .i64 xs.length (by omega) (by omega)
    clear h1 he hf hdiv e2 hQ
    go_enter Try.func8, Try.ntmps8
    go_wp2_with fail
    refine (great_any _ _ _ _ Hlx.out).mono ?_; rintro e w1 ⟨rfl, rfl⟩; rw [H1.out]
    go_wp2_with fail
    refine (matDivide_any _ _ _ _ _ _ HX.out).mono ?_; rw [Hdiv.out]; rintro e w1 ⟨ad, cd, rfl, hcd, m, hs⟩
    have M := Lib.hid (M.out.trans m); have HX := Lib.hid (HX.out.frame m); have HS := Lib.hid hs
    have hpl : (partsL xs N).length = N := partsL_length _ _
    clear m hs hcd
    rw [show ((partsL xs N, (0 : Int)).1).length = N from hpl]
    clear hpl
    go_wp2
    have hz := madeInts w1 xs.length 3
    have HZ := Lib.hid (show Ints (fun b => w1.heap.size ≤ b) (w1.alloc (.cells (madeCells #[.int .i64 0] xs.length) 3)) (some ⟨w1.heap.size, 0, Option.none⟩) (cumL xs N 0) by
      rw [H0.out]
      exact Ints.of_row hz (by simp) (by simp [maxLen]; omega) (fun k hk => by rw [ix_replicate (by simpa using hk)]) (Nat.le_refl _))
    have M := Lib.hid (M.out.alloc (.cells (madeCells #[.int .i64 0] xs.length) 3))
    have HX := Lib.hid (HX.out.alloc (.cells (madeCells #[.int .i64 0] xs.length) 3))
    have HS := Lib.hid (HS.out.alloc (.cells (madeCells #[.int .i64 0] xs.length) 3))
    generalize w1.alloc (.cells (madeCells #[.int .i64 0] xs.length) 3) = w2 at HZ M HX HS ⊢
    clear hz
    go_loopw [7, 8, 9, 10, 11, 12, 13, 14] (fun s lo hi i u1 u2 u3 u4 wr => ∃ (k : Nat) (as_ : Option Addr) (cs : Nat) (L H : Int), k ≤ N ∧ i = .int .i64 k ∧ s = .slice as_ xs.length cs ∧ lo = .int .i64 L ∧ hi = .int .i64 H ∧ Mod NoBlock w2 wr ∧ Ints (fun _ => True) wr as_ (cumL xs N k) ∧ (0 < k → Q ≤ L ∧ L ≤ Q + xs.length ∧ Q ≤ H ∧ H ≤ Q + xs.length) ∧ 0 ≤ L ∧ L ≤ 17179869184 ∧ 0 ≤ H ∧ H ≤ 17179869184) (fun _ _ _ i _ _ _ _ _ => N - (intOf i).toNat)
    case atStart => exact ⟨0, some ⟨w1.heap.size, 0, Option.none⟩, xs.length, 0, 0, by omega, rfl, rfl, rfl, rfl, Mod.refl _ _, HZ.out.mono fun _ _ _ => trivial, fun h => absurd h (by omega), by omega, by omega, by omega, by omega⟩
    case round =>
      obtain ⟨k, as_, cs, L, H, hk, rfl, rfl, rfl, rfl, hm, hs, hq, l1, l2, g1, g2⟩ := hrel
      have Hm := Lib.hid hm
      have Hs := Lib.hid hs
      have Hq := Lib.hid hq
      clear hm hs hq
      by_cases hlt : k < N
      · obtain ⟨b, off, a', c', had, _, hcell, hrow⟩ := (HS.out.frame Hm.out).row (k := k) (by rw [partsL_length]; exact hlt)
        subst had
        have hrl : (rx (partsL xs N) k).length = xs.length := by rw [rx_partsL hlt]; simp
        rw [hrl] at hcell
        have Hrow := Lib.hid hrow
        have Hrl := Lib.hid hrl
        have Hc1 := Lib.hid (Hcum.out k hlt)
        have Ht1 := Lib.hid (Htot.out k hlt)
        have hb1 := Hsb.out k hlt
        have hq1 := HQ.out k
        have hsum : (rx (partsL xs N) k).sum = (xs.map fun x => partN N x k).sum := by rw [rx_partsL hlt]
        rw [← hsum] at hq1
        obtain ⟨row, hrw⟩ : ∃ row, rx (partsL xs N) k = row := ⟨_, rfl⟩
        rw [hrw] at Hrow Hrl Hc1 Ht1 hb1 hq1
        obtain ⟨T, hT⟩ : ∃ T, row.sum = T := ⟨_, rfl⟩
        rw [hT] at Ht1 hb1 hq1
        obtain ⟨t1, t2⟩ := hb1
        have Hq1 := Lib.hid hq1
        have HcL := Lib.hid (cumL_length xs N k)
        have HcL2 := Lib.hid (cumL_length xs N (k + 1))
        have Hcall := Lib.hid (fun w' => add_n as_ a' xs.length cs c' (cumL xs N k) row w' (cumL_length xs N k) Hrl.out)
        have Hcall2 := Lib.hid (fun w' => total_n a' xs.length c' row w' Hrl.out)
        have q1 : (0 : Int) ≤ (k : Int) := by omega
        have q2 : (k : Int) < (N : Int) := by omega
        have hc0 := Lib.hid hcell
        clear hrow hrl hsum hrw hT hq1
        go_wp2_with fail
        refine (Hcall.out _ (fun _ => True) Hs.out _ Hrow.out).mono ?_; rw [Hc1.out]; rintro e w3 ⟨a3, c3, rfl, m, hs⟩
        have M3 := Lib.hid (Hm.out.trans m); have Hrow := Lib.hid (Hrow.out.frame m); have Hs3 := Lib.hid hs
        have hcell3 := m.cell hc0.out (fun h => h)
        clear m hs hcell
        rw [show ((cumL xs N (k + 1), (0 : Int)).1).length = xs.length from HcL2.out]
        go_wp2_with fail
        refine (Hcall2.out _ _ Hrow.out).mono ?_; rw [Ht1.out]; rintro e w4 ⟨rfl, m⟩
        have M4 := Lib.hid (M3.out.trans m); have Hs4 := Lib.hid (Hs3.out.frame m)
        clear m hcell3
        go_wp2
        all_goals
          have hq1 := Hq1.out
          have hq0 := Hq.out
        all_goals first
          | exact ⟨⟨k + 1, a3, c3, T, T, by omega, by first | go_num | (congr 1; omega), rfl, rfl, rfl, M4.out, Hs4.out.mono fun _ _ _ => trivial, fun _ => by omega, t1, t2, t1, t2⟩, by first | (simp [intOf]; omega) | (simp only [intOf]; omega)⟩
          | exact ⟨⟨k + 1, a3, c3, T, H, by omega, by go_num, rfl, rfl, rfl, M4.out, Hs4.out.mono fun _ _ _ => trivial, fun _ => by have := hq0 (by omega); omega, t1, t2, g1, g2⟩, by simp [intOf]; omega⟩
          | exact ⟨⟨k + 1, a3, c3, L, T, by omega, by go_num, rfl, rfl, rfl, M4.out, Hs4.out.mono fun _ _ _ => trivial, fun _ => by have := hq0 (by omega); omega, l1, l2, t1, t2⟩, by simp [intOf]; omega⟩
          | exact ⟨⟨k + 1, a3, c3, L, H, by omega, by go_num, rfl, rfl, rfl, M4.out, Hs4.out.mono fun _ _ _ => trivial, fun _ => by have := hq0 (by omega); omega, l1, l2, g1, g2⟩, by simp [intOf]; omega⟩
      · obtain rfl : k = N := by omega
        have hq := Hq.out (by omega)
        have hd1 : H - L ≤ (xs.length : Int) := by omega
        have Hs1 := Lib.hid (Hall.out ▸ Hs.out : Ints (fun _ => True) wr as_ xs)
        have HX2 := Lib.hid (HX.out.frame Hm.out)
        have M2 := Lib.hid (M.out.trans Hm.out)
        clear hq
        go_wp2_with fail
        refine (rsame_self _ _ _ _ _ _ _ _ _ rfl Hs1.out HX2.out).mono ?_; rintro e w7 ⟨rfl, m⟩
        have M2 := Lib.hid (M2.out.trans m); clear m
        go_wp2_with fail
        refine (awake_any _).mono ?_; rintro e w9 ⟨rfl, m⟩; have M2 := Lib.hid (M2.out.trans m); clear m
        go_wp2
        go_ret
        exact ⟨rfl, M2.out⟩
  · have E := Lib.hid (divL_err he)
    have hne : ((divL xs n).2 != 0) = true := by simpa using he
    clear h1 he
    go_enter Try.func8, Try.ntmps8
    go_wp2_with fail
    refine (great_any _ _ _ _ Hlx.out).mono ?_; rintro e w1 ⟨rfl, rfl⟩; rw [H1.out]
    go_wp2_with fail
    refine (matDivide_any _ _ _ _ _ _ HX.out).mono ?_; rintro e w1 ⟨d1, e1, rfl, _, m, hs⟩
    have M := Lib.hid (M.out.trans m); clear m hs
    rw [E.out]
    go_wp2_with fail
    refine (awake_any _).mono ?_; rintro e w9 ⟨rfl, m⟩; have M := Lib.hid (M.out.trans m); clear m
    go_wp2
    go_ret
    exact ⟨rfl, M.out⟩

end Go.Proofs.Ytghciackhkimoaa
