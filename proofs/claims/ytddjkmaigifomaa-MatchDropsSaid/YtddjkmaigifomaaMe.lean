/-
  match: the cost of an assignment, by the reference.
-/
import Derived.Test.YtddjkmaigifomaaMc
import Derived.Test.YtddjkmaigifomaaMd
set_option linter.unusedVariables false
set_option linter.unusedSimpArgs false
namespace Go.Proofs.Ytddjkmaigifomaa
open Go.RowKit

set_option maxRecDepth 100000 in
set_option maxHeartbeats 6400000 in
theorem refValue_any {D E F : Nat → Prop} {w : World} {a b a3 : Option Addr} {c d c3 : Nat} {C : List (List Int)} {sk cols : List Int} (h : Mixes D w a C) (hs : Ints E w b sk) (hc : Ints F w a3 cols) :
    Calls Try.prog 19 #[.slice a C.length c, .slice b sk.length d, .slice a3 cols.length c3] w fun e w' => e = .returned (.tuple #[.int .i64 (valM C sk cols).1, .int .i64 (valM C sk cols).2]) ∧ Drawn w w' := by
  have HC := Lib.hid h
  have HS := Lib.hid hs
  have HF := Lib.hid hc
  have lC : C.length ≤ maxLen := h.1
  have lF : cols.length ≤ maxLen := hc.1
  simp only [maxLen] at lC lF
  have Hchk := Lib.hid (refCheck_any (c := c) (d := d) h hs)
  clear h hs hc
  by_cases h1 : chkM C sk ≠ 0
  · have HE := Lib.hid (valM_chk (cols := cols) h1)
    have h1' : (chkM C sk != 0) = true := bne_iff_ne.2 h1
    clear h1
    go_enter Try.func19, Try.ntmps19
    go_wp2_with (go_at_call 12; refine Hchk.out.mono ?_; rintro e w1 ⟨rfl, hd1⟩)
    go_ret2
    exact ⟨by rw [HE.out] <;> rfl, hd1⟩
  have H1 : Hid (chkM C sk = 0) := Lib.hid (by omega)
  clear h1
  by_cases h2 : cols.length ≠ C.length
  · have HE := Lib.hid (valM_form H1.out h2)
    have h2' : ((cols.length : Int) != (C.length : Int)) = true := bne_iff_ne.2 (by omega)
    clear h2
    go_enter Try.func19, Try.ntmps19
    go_wp2_with (go_at_call 12; refine Hchk.out.mono ?_; rintro e w1 ⟨rfl, hd1⟩; rw [H1.out])
    go_ret2
    exact ⟨by rw [HE.out] <;> rfl, hd1⟩
  have H2 : Hid (cols.length = C.length) := Lib.hid (by omega)
  clear h2
  have HP := Lib.hid (probOk H1.out)
  have HV := Lib.hid (fun q hq hp e he h0 => valM_err (C := C) (sk := sk) (cols := cols) H1.out H2.out (q := q) hq hp (e := e) he h0)
  have HO := Lib.hid (valM_ok (C := C) (sk := sk) (cols := cols) H1.out H2.out)
  rw [HP.out.len, H2.out]
  rw [HP.out.len] at Hchk
  obtain ⟨n, hn⟩ : ∃ n, C.length = n := ⟨_, rfl⟩
  obtain ⟨k, hk⟩ : ∃ k, (rx C 0).length = k := ⟨_, rfl⟩
  rw [hn, hk] at HV HO HP
  rw [hn] at Hchk lC H2 ⊢
  have n24 := HP.out.n24
  have k24 := HP.out.k24
  have Hn := Lib.hid hn
  clear hn hk lF
  go_enter Try.func19, Try.ntmps19
  go_upto_block 0 with (go_at_call 12; refine Hchk.out.mono ?_; rintro e w1 ⟨rfl, hd1⟩; rw [H1.out])
  have HD0 := Lib.hid hd1
  clear hd1
  go_wp2_with fail
  go_loopw [9, 10] (fun s i wr => ∃ q : Nat, q ≤ n ∧ i = .int .i64 q ∧ s = .int .i64 (sumR q (costV C sk cols)) ∧ (∀ i, i < q → errV k C cols i = 0) ∧ Hid (Drawn w wr)) (fun _ i _ => n - (intOf i).toNat)
  case atStart => exact ⟨0, by omega, rfl, rfl, fun i hi => absurd hi (Nat.not_lt_zero i), HD0⟩
  case round =>
    clear HD0
    clear w1
    obtain ⟨q, hq, rfl, rfl, herr, HD⟩ := hrel
    have Herr := Lib.hid herr
    clear herr
    obtain ⟨wo, rfl⟩ : ∃ wo : World, wo = wr := ⟨_, rfl⟩
    by_cases hlt : q < n
    · have q1 : (q : Int) < (n : Int) := by omega
      obtain ⟨_, b3, o3, ha3, hc3⟩ := HF.out.open
      obtain rfl := ha3 (by intro e; have h9 := H2.out; rw [e] at h9; simp at h9; omega)
      have HF3 := Lib.hid hc3
      have d3 : wo.cell? ⟨b3, o3 + q, none⟩ = some (.int .i64 (ix cols q)) := by obtain ⟨kd, rfl⟩ := HD.out; exact hc3 q (by rw [H2.out]; exact hlt)
      clear ha3 hc3
      obtain ⟨s0, s1⟩ := sumV_bound HP.out q hq Herr.out
      obtain ⟨b4, o4, a4, c4, rfl, hD4, hc4w, hI4⟩ := HC.out.row (k := q) (by rw [Hn.out]; exact hlt)
      rw [HP.out.rect.2 q hlt] at hc4w
      have C4 := Lib.hid hc4w
      have HI4 := Lib.hid hI4
      have hc4 : wo.cell? ⟨b4, o4 + q, none⟩ = some (.slice a4 k c4) := by obtain ⟨kd, rfl⟩ := HD.out; exact hc4w
      clear hc4w hI4 hD4
      obtain ⟨x, hx⟩ : ∃ x, ix cols q = x := ⟨_, rfl⟩
      rw [hx] at d3
      by_cases hr : x < -1 ∨ (k : Int) ≤ x
      · have HE := Lib.hid (HV.out q hlt Herr.out 1 (errV_range (by rw [hx]; exact hr)) (by decide))
        clear hx
        by_cases hr1 : x < -1
        · clear hr
          go_wp2_with (go_quiet (fail))
          go_ret2
          exact ⟨by rw [HE.out] <;> rfl, HD.out.trans (Drawn.mk _ _)⟩
        · have hr2 : (k : Int) ≤ x := by omega
          clear hr
          go_wp2_with (go_quiet (fail))
          go_ret2
          exact ⟨by rw [HE.out] <;> rfl, HD.out.trans (Drawn.mk _ _)⟩
      by_cases hx1 : x = -1
      · subst hx1
        obtain ⟨_, b5, o5, ha4, hc5⟩ := (HS.out.drawn (HD.out.trans (Drawn.mk wo 1))).open
        obtain rfl := ha4 (by intro e; have h9 := HP.out.len; rw [e] at h9; simp at h9; omega)
        have d4 : wo.cell? ⟨b5, o5 + q, none⟩ = some (.int .i64 (ix sk q)) := hc5 q (by rw [HP.out.len]; exact hlt)
        have Hsum : Hid (sumR (q + 1) (costV C sk cols) = sumR q (costV C sk cols) + ix sk q) := Lib.hid (by show _ + costV C sk cols q = _; rw [costV_none hx])
        have Her : Hid (errV k C cols q = 0) := Lib.hid (errV_none hx)
        obtain ⟨y0, y1⟩ := HP.out.skip q hlt
        have k2 : ¬ (k : Int) ≤ -1 := by omega
        clear hx ha4 hc5 hr
        generalize ix sk q = y at d4 Hsum y0 y1
        generalize sumR q (costV C sk cols) = z at s0 s1 Hsum ⊢
        go_wp2_with (go_quiet (fail))
        refine ⟨⟨q + 1, by omega, by go_num, by rw [Hsum.out], fun i hi => ?_, Lib.hid (HD.out.trans (Drawn.mk _ _))⟩, by simp [intOf]; omega⟩
        by_cases e : i = q
        · rw [e]; exact Her.out
        · exact Herr.out i (by omega)
      obtain ⟨x, rfl⟩ : ∃ X : Nat, x = (X : Int) := ⟨x.toNat, by omega⟩
      have hxk : x < k := by omega
      have Hx := Lib.hid hx
      have x1 : (x : Int) < (k : Int) := by omega
      have Hd3 : Hid (∀ nd, (w.drewN nd).cell? ⟨b3, o3 + q, none⟩ = some (.int .i64 (x : Int))) := Lib.hid fun nd => by rw [← hx]; exact HF3.out q (by rw [H2.out]; exact hlt)
      clear hx hx1 hr
      go_upto_block 2 with (go_quiet (fail))
      replace HD := Lib.hid (HD.out.trans (Drawn.mk wo nq))
      clear d3 hc4
      generalize wo.drewN nq = w2 at HD ⊢
      go_wp2_with fail
      go_loopw [11] (fun i wr => ∃ j : Nat, j ≤ q ∧ i = .int .i64 j ∧ (∀ i, i < j → ix cols i ≠ (x : Int)) ∧ Hid (Drawn w wr)) (fun i _ => q - (intOf i).toNat)
      case atStart => exact ⟨0, by omega, rfl, fun i hi => absurd hi (Nat.not_lt_zero i), HD⟩
      case round =>
        clear HD
        clear w2
        obtain ⟨j, hj, rfl, hne, HD⟩ := hrel
        have Hne := Lib.hid hne
        clear hne
        obtain ⟨wp, rfl⟩ : ∃ wp : World, wp = wr := ⟨_, rfl⟩
        have d3 : wp.cell? ⟨b3, o3 + q, none⟩ = some (.int .i64 (x : Int)) := by obtain ⟨kd, rfl⟩ := HD.out; exact Hd3.out kd
        by_cases hjq : j < q
        · have j1 : (j : Int) < (q : Int) := by omega
          have j2 : (j : Int) < (n : Int) := by omega
          have d7 : wp.cell? ⟨b3, o3 + j, none⟩ = some (.int .i64 (ix cols j)) := by obtain ⟨kd, rfl⟩ := HD.out; exact HF3.out j (by rw [H2.out]; omega)
          obtain ⟨y, hy⟩ : ∃ y, ix cols j = y := ⟨_, rfl⟩
          rw [hy] at d7
          by_cases hyx : y = (x : Int)
          · subst hyx
            have HE := Lib.hid (HV.out q hlt Herr.out 6 (errV_twice Hx.out hxk (tk_iff.2 ⟨j, hjq, hy⟩)) (by decide))
            clear hy
            go_wp2_with (go_quiet (fail))
            go_ret2
            exact ⟨by rw [HE.out] <;> rfl, HD.out.trans (Drawn.mk _ _)⟩
          · have hyb : (y == (x : Int)) = false := beq_eq_false_iff_ne.2 hyx
            have Hy : Hid (ix cols j ≠ (x : Int)) := Lib.hid (by rw [hy]; exact hyx)
            clear hy hyx
            go_wp2_with (go_quiet (fail))
            exact ⟨⟨j + 1, by omega, by go_num, fun i hi => by
              by_cases e : i = j
              · rw [e]; exact Hy.out
              · exact Hne.out i (by omega), Lib.hid (HD.out.trans (Drawn.mk _ _))⟩, by simp [intOf]; omega⟩
        · obtain rfl : j = q := by omega
          have ht : tk cols j (x : Int) = false := by
            cases h : tk cols j (x : Int)
            · rfl
            · obtain ⟨i, h1, h2⟩ := tk_iff.1 h
              exact absurd h2 (Hne.out i h1)
          obtain ⟨_, b6, o6, ha6, hc6⟩ := HI4.out.open
          obtain rfl := ha6 (by intro e; have h9 := HP.out.rect.2 j hlt; rw [e] at h9; simp at h9; omega)
          have d6 : wp.cell? ⟨b6, o6 + x, none⟩ = some (.int .i64 (ix (rx C j) x)) := by obtain ⟨kd, rfl⟩ := HD.out; exact hc6 x (by rw [HP.out.rect.2 j hlt]; exact hxk)
          have hc4 : wp.cell? ⟨b4, o4 + j, none⟩ = some (.slice (some ⟨b6, o6, none⟩) k c4) := by obtain ⟨kd, rfl⟩ := HD.out; exact C4.out
          obtain ⟨hcx, hcx2⟩ := HP.out.cost j hlt x hxk
          clear ha6 hc6
          obtain ⟨y, hy⟩ : ∃ y, ix (rx C j) x = y := ⟨_, rfl⟩
          rw [hy] at d6 hcx hcx2
          have j2 : (j : Int) < (n : Int) := by omega
          by_cases hy1 : y = -1
          · subst hy1
            have HE := Lib.hid (HV.out j hlt Herr.out 7 (errV_no Hx.out hxk ht hy) (by decide))
            clear hy ht
            go_wp2_with (go_quiet (fail))
            go_ret2
            exact ⟨by rw [HE.out] <;> rfl, HD.out.trans (Drawn.mk _ _)⟩
          · have Her : Hid (errV k C cols j = 0) := Lib.hid (errV_good Hx.out hxk ht (by rw [hy]; exact hy1))
            have Hsum : Hid (sumR (j + 1) (costV C sk cols) = sumR j (costV C sk cols) + y) := Lib.hid (by show _ + costV C sk cols j = _; rw [costV_at Hx.out, hy])
            have y2 : 0 ≤ y := by omega
            clear hy hy1 ht hcx
            generalize sumR j (costV C sk cols) = z at s0 s1 Hsum ⊢
            have hez : IntKind.i64.wrap (z + y) = z + y := IntWalk.i64_in _ (by omega)
            go_wp2_with (go_quiet (fail))
            refine ⟨⟨j + 1, by omega, by go_num, by rw [Hsum.out], fun i hi => ?_, Lib.hid (HD.out.trans (Drawn.mk _ _))⟩, by simp [intOf]; omega⟩
            by_cases e : i = j
            · rw [e]; exact Her.out
            · exact Herr.out i (by omega)
    · obtain rfl : q = n := by omega
      have HE := Lib.hid (HO.out Herr.out)
      go_wp2_with fail
      go_ret2
      exact ⟨by rw [HE.out] <;> rfl, HD.out⟩

end Go.Proofs.Ytddjkmaigifomaa
