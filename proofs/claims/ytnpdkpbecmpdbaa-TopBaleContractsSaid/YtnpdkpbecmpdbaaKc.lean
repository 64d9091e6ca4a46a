/-
  contract: Check, of the code and of the reference.
-/
import Derived.Test.YtnpdkpbecmpdbaaKb
set_option linter.unusedVariables false
set_option linter.unusedSimpArgs false
namespace Go.Proofs.Ytnpdkpbecmpdbaa
open Go.RowKit

set_option maxRecDepth 100000 in
set_option maxHeartbeats 12800000 in
theorem check52_any {D : Nat → Prop} {w : World} {a : Option Addr} {c : Nat} {n : Int} {l : List Ctr} (h : Ctrs D w a l) (hcap : l.length ≤ c) :
    Calls Try.prog 36 #[.slice a l.length c, .int .i64 n] w fun e w' => e = .returned (.int .i64 (chkC l n)) ∧ Mod NoBlock w w' := by
  have H := Lib.hid h
  have lc : l.length ≤ maxLen := h.1
  simp only [maxLen] at lc
  clear h
  by_cases h16 : 16 < l.length
  · have HE := Lib.hid (chkC_full (n := n) h16)
    have h16' : (16 : Int) < (l.length : Int) := by omega
    clear h16
    go_enter Try.func36, Try.ntmps36
    go_wp2_with fail
    go_ret
    exact ⟨ret_int (by rw [HE.out]), Mod.refl _ _⟩
  have h16' : ¬ (16 : Int) < (l.length : Int) := by omega
  have HA := Lib.hid fun (q : Nat) (hq : q < l.length) (hp : ∀ i, i < q → ctrE n (cx l i) = 0) (e : Int) (he : ctrE n (cx l q) = e) (h0 : e ≠ 0) => chkC_at h16 hq hp he h0
  have HB := Lib.hid fun hp hd => chkC_dup (l := l) (n := n) h16 hp hd
  have HO := Lib.hid fun hp hd => chkC_ok (l := l) (n := n) h16 hp hd
  obtain ⟨_, b, off, ha, hcell⟩ := H.out.open
  have Hcell := Lib.hid hcell
  have Ha := Lib.hid ha
  clear h16 hcell ha
  go_enter Try.func36, Try.ntmps36
  go_wp2_with fail
  go_loopw [16] (fun i wr => ∃ q : Nat, q ≤ l.length ∧ i = .int .i64 q ∧ (∀ i, i < q → ctrE n (cx l i) = 0) ∧ Mod NoBlock w wr) (fun i _ => l.length - (intOf i).toNat)
  case atStart => exact ⟨0, by omega, rfl, fun i hi => absurd hi (Nat.not_lt_zero i), Mod.refl _ _⟩
  case round =>
    obtain ⟨q, hq, rfl, hok, hm⟩ := hrel
    have M := Lib.hid hm
    have HK := Lib.hid hok
    clear hm hok
    obtain ⟨wo, rfl⟩ : ∃ wo : World, wo = wr := ⟨_, rfl⟩
    by_cases hlt : q < l.length
    · have q1 : (q : Int) < (l.length : Int) := by omega
      obtain rfl := Ha.out (by intro e; rw [e] at hlt; simp at hlt)
      obtain ⟨d0, d1, d2, d3, d4, d5, d6⟩ := (Hcell.out q hlt).mod M.out id
      have HAq := Lib.hid fun e he h0 => HA.out q hlt HK.out e he h0
      obtain ⟨x, hx⟩ : ∃ x, cx l q = x := ⟨_, rfl⟩
      rw [hx] at d0 d1 d2 d3 d4 d5 d6 HAq
      have Hx := Lib.hid hx
      have M2 := Lib.hid (M.out.alloc (.cells #[.int .i64 x.i, .int .i64 x.m, .int .i64 x.g, .int .i64 x.w, .int .i64 x.s, .int .i64 x.p, .int .i64 x.q] 58))
      have Hnum := Lib.hid (numbers_any x (wo.alloc (.cells #[.int .i64 x.i, .int .i64 x.m, .int .i64 x.g, .int .i64 x.w, .int .i64 x.s, .int .i64 x.p, .int .i64 x.q] 58)))
      clear hx
      by_cases e1 : x.i < 1
      · have HE := Lib.hid (HAq.out 1 (by unfold ctrE; rw [if_pos (.inl e1)]) (by decide))
        go_wp2_with fail
        go_ret
        exact ⟨ret_int (by rw [HE.out]), M2.out⟩
      by_cases e2 : 1000000 < x.i
      · have HE := Lib.hid (HAq.out 1 (by unfold ctrE; rw [if_pos (.inr e2)]) (by decide))
        go_wp2_with fail
        go_ret
        exact ⟨ret_int (by rw [HE.out]), M2.out⟩
      have Hc1 := Lib.hid (show ¬ (x.i < 1 ∨ 1000000 < x.i) by omega)
      by_cases e3 : x.m < 0
      · have HE := Lib.hid (HAq.out 21 (by unfold ctrE; rw [if_neg Hc1.out, if_pos (.inl e3)]) (by decide))
        go_wp2_with fail
        go_ret
        exact ⟨ret_int (by rw [HE.out]), M2.out⟩
      by_cases e4 : 16 ≤ x.m
      · have HE := Lib.hid (HAq.out 21 (by unfold ctrE; rw [if_neg Hc1.out, if_pos (.inr e4)]) (by decide))
        go_wp2_with fail
        go_ret
        exact ⟨ret_int (by rw [HE.out]), M2.out⟩
      have Hc2 := Lib.hid (show ¬ (x.m < 0 ∨ 16 ≤ x.m) by omega)
      by_cases e5 : x.g < 0
      · have HE := Lib.hid (HAq.out 7 (by unfold ctrE; rw [if_neg Hc1.out, if_neg Hc2.out, if_pos (.inl e5)]) (by decide))
        go_wp2_with fail
        go_ret
        exact ⟨ret_int (by rw [HE.out]), M2.out⟩
      by_cases e6 : n ≤ x.g
      · have HE := Lib.hid (HAq.out 7 (by unfold ctrE; rw [if_neg Hc1.out, if_neg Hc2.out, if_pos (.inr e6)]) (by decide))
        go_wp2_with fail
        go_ret
        exact ⟨ret_int (by rw [HE.out]), M2.out⟩
      have Hc3 := Lib.hid (show ¬ (x.g < 0 ∨ n ≤ x.g) by omega)
      by_cases e7 : numC x = false
      · have HE := Lib.hid (HAq.out 1 (by unfold ctrE; rw [if_neg Hc1.out, if_neg Hc2.out, if_neg Hc3.out, if_pos e7]) (by decide))
        rw [e7] at Hnum
        clear e7
        go_wp2_with (go_at_call 42; refine Hnum.out.mono ?_; rintro e w3 ⟨rfl, m3⟩)
        have M3 := Lib.hid (M2.out.trans m3)
        clear m3
        go_wp2_with fail
        go_ret
        exact ⟨ret_int (by rw [HE.out]), M3.out⟩
      have HE : Hid (ctrE n x = 0) := Lib.hid (by unfold ctrE; rw [if_neg Hc1.out, if_neg Hc2.out, if_neg Hc3.out, if_neg e7])
      have e8 : numC x = true := by simpa using e7
      rw [e8] at Hnum
      clear e7 e8
      go_wp2_with (go_at_call 42; refine Hnum.out.mono ?_; rintro e w3 ⟨rfl, m3⟩)
      have M3 := Lib.hid (M2.out.trans m3)
      clear m3
      go_wp2_with fail
      exact ⟨⟨q + 1, by omega, by go_num, fun i hi => by
        by_cases e : i = q
        · rw [e, Hx.out]; exact HE.out
        · exact HK.out i (by omega), M3.out⟩, by simp [intOf]; omega⟩
    · obtain rfl : q = l.length := by omega
      have HB2 := Lib.hid fun hd => HB.out HK.out hd
      have HO2 := Lib.hid fun hd => HO.out HK.out hd
      clear HK hlt hq HA HB HO
      go_wp2_with fail
      go_loopw [55] (fun i wr => ∃ q : Nat, q ≤ l.length ∧ i = .int .i64 q ∧ (∀ i, i < q → ∀ j, j < i → (cx l i).i ≠ (cx l j).i) ∧ Mod NoBlock w wr) (fun i _ => l.length - (intOf i).toNat)
      case atStart => exact ⟨0, by omega, rfl, fun i hi => absurd hi (Nat.not_lt_zero i), M.out⟩
      case round =>
        clear M
        clear wo
        obtain ⟨q, hq, rfl, hnd, hm⟩ := hrel
        have M := Lib.hid hm
        have HN := Lib.hid hnd
        clear hm hnd
        obtain ⟨wo, rfl⟩ : ∃ wo : World, wo = wr := ⟨_, rfl⟩
        by_cases hlt : q < l.length
        · have q1 : (q : Int) < (l.length : Int) := by omega
          obtain rfl := Ha.out (by intro e; rw [e] at hlt; simp at hlt)
          have qc : (q : Int) ≤ (c : Int) := by omega
          obtain ⟨d0, d1, d2, d3, d4, d5, d6⟩ := (Hcell.out q hlt).mod M.out id
          obtain ⟨x, hx⟩ : ∃ x, cx l q = x := ⟨_, rfl⟩
          rw [hx] at d0 d1 d2 d3 d4 d5 d6
          have Hx := Lib.hid hx
          have M2 := Lib.hid (M.out.alloc (.cells #[.int .i64 x.i, .int .i64 x.m, .int .i64 x.g, .int .i64 x.w, .int .i64 x.s, .int .i64 x.p, .int .i64 x.q] 58))
          have B2 := Lib.hid (rowIs_new wo #[.int .i64 x.i, .int .i64 x.m, .int .i64 x.g, .int .i64 x.w, .int .i64 x.s, .int .i64 x.p, .int .i64 x.q] 58)
          clear hx
          go_upto_region 18 with fail
          clear d0 d1 d2 d3 d4 d5 d6 M
          generalize wo.alloc (.cells #[.int .i64 x.i, .int .i64 x.m, .int .i64 x.g, .int .i64 x.w, .int .i64 x.s, .int .i64 x.p, .int .i64 x.q] 58) = w8 at M2 B2 ⊢
          generalize wo.heap.size = g8 at B2 ⊢
          go_wp2_with fail
          go_loopw [64] (fun i wr => ∃ j : Nat, j ≤ q ∧ i = .int .i64 j ∧ (∀ j', j' < j → (cx l q).i ≠ (cx l j').i) ∧ Mod NoBlock w8 wr) (fun i _ => q - (intOf i).toNat)
          case atStart => exact ⟨0, by omega, rfl, fun i hi => absurd hi (Nat.not_lt_zero i), Mod.refl _ _⟩
          case round =>
            obtain ⟨j, hj, rfl, hnj, hm⟩ := hrel
            have M3 := Lib.hid hm
            have HJ := Lib.hid hnj
            clear hm hnj
            obtain ⟨wp, rfl⟩ : ∃ wp : World, wp = wr := ⟨_, rfl⟩
            by_cases hjq : j < q
            · have j1 : (j : Int) < (q : Int) := by omega
              have j2 : (j : Int) < (l.length : Int) := by omega
              have k0 : wp.cell? ⟨g8, 0, none⟩ = some (.int .i64 x.i) := M3.out.cell (B2.out.cell (i := 0) (by show 0 < 7; omega)) id
              obtain ⟨d0, d1, d2, d3, d4, d5, d6⟩ := (Hcell.out j (by omega)).mod (M2.out.trans M3.out) id
              obtain ⟨y, hy⟩ : ∃ y, cx l j = y := ⟨_, rfl⟩
              rw [hy] at d0 d1 d2 d3 d4 d5 d6
              have Hy := Lib.hid hy
              clear hy
              have k1 : (wp.alloc (.cells #[.int .i64 y.i, .int .i64 y.m, .int .i64 y.g, .int .i64 y.w, .int .i64 y.s, .int .i64 y.p, .int .i64 y.q] 58)).cell? ⟨g8, 0, none⟩ = some (.int .i64 x.i) := ((Mod.refl NoBlock wp).alloc _).cell k0 id
              have M4 := Lib.hid (M3.out.alloc (.cells #[.int .i64 y.i, .int .i64 y.m, .int .i64 y.g, .int .i64 y.w, .int .i64 y.s, .int .i64 y.p, .int .i64 y.q] 58))
              by_cases he : x.i = y.i
              · have heb : (x.i == y.i) = true := by rw [he]; simp
                have HE := Lib.hid (HB2.out ⟨q, j, hjq, hlt, by rw [Hx.out, Hy.out, he]⟩)
                clear he
                go_wp2_with fail
                go_ret
                exact ⟨ret_int (by rw [HE.out]), M2.out.trans M4.out⟩
              · have heb : (x.i == y.i) = false := beq_eq_false_iff_ne.2 he
                have He := Lib.hid he
                clear he
                go_wp2_with fail
                exact ⟨⟨j + 1, by omega, by go_num, fun j' hj' => by
                  by_cases e : j' = j
                  · rw [e, Hx.out, Hy.out]; exact He.out
                  · exact HJ.out j' (by omega), M4.out⟩, by simp [intOf]; omega⟩
            · obtain rfl : j = q := by omega
              have M5 := Lib.hid (M2.out.trans M3.out)
              go_wp2_with fail
              exact ⟨⟨j + 1, by omega, by go_num, fun i hi => by
                by_cases e : i = j
                · rw [e]; exact HJ.out
                · exact HN.out i (by omega), M5.out⟩, by simp [intOf]; omega⟩
        · have HE := Lib.hid (HO2.out fun ⟨i, j, h1, h2, h3⟩ => HN.out i (by omega) j h1 h3)
          go_wp2_with fail
          go_ret
          exact ⟨ret_int (by rw [HE.out]), M.out⟩

end Go.Proofs.Ytnpdkpbecmpdbaa
