/-
  match: which problems are valid, by the reference.
-/
import Derived.Test.YtnacoglfhhenhaaMa
set_option linter.unusedVariables false
set_option linter.unusedSimpArgs false
namespace Go.Proofs.Ytnacoglfhhenhaa
open Go.RowKit

set_option maxRecDepth 100000 in
set_option maxHeartbeats 6400000 in
theorem refCheck_any {D E : Nat → Prop} {w : World} {a b : Option Addr} {c d : Nat} {C : List (List Int)} {sk : List Int} (h : Mixes D w a C) (hs : Ints E w b sk) :
    Calls Try.prog 50 #[.slice a C.length c, .slice b sk.length d] w fun e w' => e = .returned (.int .i64 (chkM C sk)) ∧ Drawn w w' := by
  have HC := Lib.hid h
  have HS := Lib.hid hs
  have lC : C.length ≤ maxLen := h.1
  have lS : sk.length ≤ maxLen := hs.1
  simp only [maxLen] at lC lS
  clear h hs
  by_cases h1 : 24 < C.length
  · have HE := Lib.hid (chkM_full (sk := sk) h1)
    have h1' : (24 : Int) < (C.length : Int) := by omega
    go_enter Try.func50, Try.ntmps50
    go_wp2_with fail
    go_ret
    exact ⟨by rw [HE.out] <;> rfl, Drawn.refl w⟩
  have H1 := Lib.hid h1
  have h1' : (C.length : Int) ≤ 24 := by omega
  by_cases h2 : sk.length ≠ C.length
  · have HE := Lib.hid (chkM_form h1 h2)
    have h2' : ((sk.length : Int) != (C.length : Int)) = true := bne_iff_ne.2 (by omega)
    clear h1 h2
    go_enter Try.func50, Try.ntmps50
    go_wp2_with fail
    go_ret
    exact ⟨by rw [HE.out] <;> rfl, Drawn.refl w⟩
  have H2 : Hid (sk.length = C.length) := Lib.hid (by omega)
  rw [H2.out]
  obtain ⟨n, hn⟩ : ∃ n, C.length = n := ⟨_, rfl⟩
  have Hn := Lib.hid hn
  rw [hn] at lC h1' ⊢
  obtain ⟨k, hk⟩ : ∃ k, (rx C 0).length = k := ⟨_, rfl⟩
  have Hk := Lib.hid hk
  have HR := Lib.hid (fun q hq hp e he he0 => chkM_row (C := C) (sk := sk) h1 H2.out (q := q) hq hp (e := e) he he0)
  have HK := Lib.hid (chkM_skip (C := C) (sk := sk) h1 H2.out)
  rw [hn, hk] at HK
  rw [hk] at HR
  clear h1 h2 lS hn hk
  go_enter Try.func50, Try.ntmps50
  go_wp2_with fail
  go_loopw [5] (fun i wr => ∃ q : Nat, q ≤ n ∧ i = .int .i64 q ∧ (∀ i, i < q → rowE k (rx C i) = 0) ∧ Hid (Drawn w wr)) (fun i _ => n - (intOf i).toNat)
  case atStart => exact ⟨0, by omega, rfl, fun i hi => absurd hi (Nat.not_lt_zero i), Lib.hid (Drawn.refl w)⟩
  case round =>
    obtain ⟨q, hq, rfl, hp, HD⟩ := hrel
    have HP := Lib.hid hp
    clear hp
    obtain ⟨wo, rfl⟩ : ∃ wo : World, wo = wr := ⟨_, rfl⟩
    by_cases hlt : q < n
    · obtain ⟨b1, off1, a1, c1, rfl, hD1, hc1, hI1⟩ := (HC.out.drawn HD.out).row (k := q) (by rw [Hn.out]; exact hlt)
      obtain ⟨b2, off2, a2, c2, ha2, hD2, hc2, hI2⟩ := (HC.out.drawn HD.out).row (k := 0) (by rw [Hn.out]; omega)
      simp only [Option.some.injEq, Addr.mk.injEq, and_true] at ha2
      obtain ⟨rfl, rfl⟩ := ha2
      rw [Nat.add_zero, Hk.out] at hc2
      have q1 : (q : Int) < (n : Int) := by omega
      have n1 : (0 : Int) < (n : Int) := by omega
      have HI := Lib.hid hI1
      have lr : (rx C q).length ≤ maxLen := hI1.1
      simp only [maxLen] at lr
      clear hI1 hI2 hD1 hD2
      obtain ⟨r, hr⟩ : ∃ r, rx C q = r := ⟨_, rfl⟩
      rw [hr] at hc1 HI lr
      have Hr := Lib.hid hr
      clear hr
      by_cases g1 : 24 < r.length
      · have g1' : (24 : Int) < (r.length : Int) := by omega
        have HE := Lib.hid (HR.out q (by rw [Hn.out]; exact hlt) HP.out 8 (by rw [Hr.out]; exact rowE_full g1) (by decide))
        clear g1
        go_wp2_with fail
        go_ret
        exact ⟨by rw [HE.out] <;> rfl, HD.out⟩
      have G1 := Lib.hid g1
      have g1' : (r.length : Int) ≤ 24 := by omega
      by_cases g2 : r.length ≠ k
      · have g2' : ((r.length : Int) != (k : Int)) = true := bne_iff_ne.2 (by omega)
        have HE := Lib.hid (HR.out q (by rw [Hn.out]; exact hlt) HP.out 3 (by rw [Hr.out]; exact rowE_form g1 g2) (by decide))
        clear g1 g2
        go_wp2_with (go_quiet (fail))
        go_ret
        exact ⟨by rw [HE.out] <;> rfl, HD.out.trans (Drawn.mk _ _)⟩
      have G2 : Hid (r.length = k) := Lib.hid (by omega)
      rw [G2.out] at hc1 g1'
      clear g1 g2 lr
      go_upto_region 12 with (go_quiet (fail))
      have HD2 := Lib.hid (HD.out.trans (Drawn.mk wo nq))
      have HI2 := Lib.hid (HI.out.drawn (Drawn.mk wo nq))
      have hc5 : (wo.drewN nq).cell? ⟨b1, off1 + q, none⟩ = some (.slice a1 k c1) := hc1
      generalize wo.drewN nq = w2 at HD2 HI2 hc5 ⊢
      clear hc1 hc2 HI HD
      have HI := Lib.hid HI2.out
      have HD := Lib.hid HD2.out
      clear HI2 HD2
      go_wp2_with fail
      go_loopw [6] (fun i wr => ∃ j : Nat, j ≤ k ∧ i = .int .i64 j ∧ (∀ i, i < j → ¬ (ix r i < -1 ∨ 1000000000 < ix r i)) ∧ Hid (wr = w2)) (fun i _ => k - (intOf i).toNat)
      case atStart => exact ⟨0, by omega, rfl, fun i hi => absurd hi (Nat.not_lt_zero i), Lib.hid rfl⟩
      case round =>
        obtain ⟨j, hj, rfl, hok, ⟨rfl⟩⟩ := hrel
        have HO := Lib.hid hok
        clear hok
        by_cases hjk : j < k
        · obtain ⟨_, b3, o3, ha3, hc3⟩ := HI.out.open
          obtain rfl := ha3 (by intro e; have := G2.out; rw [e] at this; simp at this; omega)
          have hc4 := hc3 j (by rw [G2.out]; exact hjk)
          have j1 : (j : Int) < (k : Int) := by omega
          clear hc3 ha3
          obtain ⟨x, hx⟩ : ∃ x, ix r j = x := ⟨_, rfl⟩
          rw [hx] at hc4
          by_cases hb : x < -1 ∨ 1000000000 < x
          · have HE := Lib.hid (HR.out q (by rw [Hn.out]; exact hlt) HP.out 1 (by rw [Hr.out]; exact rowE_bad G1.out G2.out (badL_at (q := j) (by rw [G2.out]; exact hjk) (by rw [hx]; exact hb))) (by decide))
            clear hx
            rcases hb with hb | hb
            · go_wp2_with fail
              go_ret
              exact ⟨by rw [HE.out] <;> rfl, HD.out⟩
            · have hb2 : ¬ x < -1 := by omega
              go_wp2_with fail
              go_ret
              exact ⟨by rw [HE.out] <;> rfl, HD.out⟩
          · have Hb := Lib.hid hb
            have x1 : -1 ≤ x := by omega
            have x2 : x ≤ 1000000000 := by omega
            have Hx := Lib.hid hx
            clear hx hb
            go_wp2_with fail
            exact ⟨⟨j + 1, by omega, by go_num, fun i hi => by
              by_cases e : i = j
              · rw [e, Hx.out]; exact Hb.out
              · exact HO.out i (by omega), Lib.hid trivial⟩, by simp [intOf]; omega⟩
        · obtain rfl : j = k := by omega
          have Hrow : Hid (rowE j (rx C q) = 0) := Lib.hid (by rw [Hr.out]; exact rowE_ok G1.out G2.out (badL_none fun i hi => HO.out i (by rw [G2.out] at hi; exact hi)))
          go_wp2_with fail
          exact ⟨⟨q + 1, by omega, by go_num, fun i hi => by
            by_cases e : i = q
            · rw [e]; exact Hrow.out
            · exact HP.out i (by omega), HD⟩, by simp [intOf]; omega⟩
    · obtain rfl : q = n := by omega
      have HE := Lib.hid (HK.out HP.out)
      clear hlt
      go_wp2_with fail
      go_loopw [7] (fun i wr => ∃ j : Nat, j ≤ q ∧ i = .int .i64 j ∧ (∀ i, i < j → ¬ (ix sk i < 0 ∨ 1000000000 < ix sk i)) ∧ Hid (wr = wo)) (fun i _ => q - (intOf i).toNat)
      case atStart => exact ⟨0, by omega, rfl, fun i hi => absurd hi (Nat.not_lt_zero i), Lib.hid rfl⟩
      case round =>
        obtain ⟨j, hj, rfl, hok, ⟨rfl⟩⟩ := hrel
        have HO := Lib.hid hok
        clear hok
        by_cases hjk : j < q
        · obtain ⟨_, b3, o3, ha3, hc3⟩ := (HS.out.drawn HD.out).open
          obtain rfl := ha3 (by intro e; have h9 := H2.out; rw [e, Hn.out] at h9; simp at h9; omega)
          have hc4 := hc3 j (by rw [H2.out, Hn.out]; exact hjk)
          have j1 : (j : Int) < (q : Int) := by omega
          clear hc3 ha3
          obtain ⟨x, hx⟩ : ∃ x, ix sk j = x := ⟨_, rfl⟩
          rw [hx] at hc4
          by_cases hb : x < 0 ∨ 1000000000 < x
          · have HE2 : Hid (chkM C sk = 1) := Lib.hid (by rw [HE.out, badL_at (q := j) (by rw [H2.out, Hn.out]; exact hjk) (by rw [hx]; exact hb)]; rfl)
            clear hx
            rcases hb with hb | hb
            · go_wp2_with fail
              go_ret
              exact ⟨by rw [HE2.out] <;> rfl, HD.out⟩
            · have hb2 : ¬ x < 0 := by omega
              go_wp2_with fail
              go_ret
              exact ⟨by rw [HE2.out] <;> rfl, HD.out⟩
          · have Hb := Lib.hid hb
            have x1 : 0 ≤ x := by omega
            have x2 : x ≤ 1000000000 := by omega
            have Hx := Lib.hid hx
            clear hx hb
            go_wp2_with fail
            exact ⟨⟨j + 1, by omega, by go_num, fun i hi => by
              by_cases e : i = j
              · rw [e, Hx.out]; exact Hb.out
              · exact HO.out i (by omega), Lib.hid trivial⟩, by simp [intOf]; omega⟩
        · obtain rfl : j = q := by omega
          have HE2 : Hid (chkM C sk = 0) := Lib.hid (by rw [HE.out, badL_none fun i hi => HO.out i (by rw [H2.out, Hn.out] at hi; exact hi)]; rfl)
          go_wp2_with fail
          go_ret
          exact ⟨by rw [HE2.out] <;> rfl, HD.out⟩

end Go.Proofs.Ytnacoglfhhenhaa
