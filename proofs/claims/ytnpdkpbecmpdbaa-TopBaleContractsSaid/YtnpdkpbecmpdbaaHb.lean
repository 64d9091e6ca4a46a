/-
  match: what a step of the search keeps.
-/
import Derived.Test.YtnpdkpbecmpdbaaHa
set_option linter.unusedVariables false
set_option linter.unusedSimpArgs false
namespace Go.Proofs.Ytnpdkpbecmpdbaa
open Go.RowKit

/-- The assignment of the columns 0 .. K (0: the root): rows up to n, each at one column at most. -/
structure RowOk (n K : Nat) (row : Nat → Nat) : Prop where
  le : ∀ j, j ≤ K → row j ≤ n
  inj : ∀ j j', j ≤ K → j' ≤ K → row j ≠ 0 → row j = row j' → j = j'

/-- How many of the first k columns are used. -/
def cnt (us : Nat → Bool) : Nat → Nat
  | 0 => 0
  | k + 1 => cnt us k + if us k then 1 else 0
theorem cnt_le (us : Nat → Bool) (k : Nat) : cnt us k ≤ k := by
  induction k with
  | zero => exact Nat.le_refl _
  | succ k ih => unfold cnt; split <;> omega
theorem cnt_lt {us : Nat → Bool} {k f : Nat} (hf : f < k) (h : us f = false) : cnt us k < k := by
  induction k with
  | zero => omega
  | succ k ih =>
    unfold cnt
    by_cases hk : f = k
    · subst hk
      have := cnt_le us f
      rw [h]; simp; omega
    · have := ih (by omega)
      split <;> omega
theorem cnt_mark {us us' : Nat → Bool} {k a : Nat} (h : us a = false) (ha : us' a = true) (ho : ∀ j, j ≠ a → us' j = us j) : cnt us' k = cnt us k + if a < k then 1 else 0 := by
  induction k with
  | zero => rfl
  | succ k ih =>
    unfold cnt
    rw [ih]
    by_cases hk : k = a
    · subst hk
      rw [h, ha, if_neg (Nat.lt_irrefl k), if_pos (Nat.lt_succ_self k)]; rfl
    · rw [ho k hk]
      have hc := Nat.add_right_comm (cnt us k) (if a < k then 1 else 0) (if us k = true then 1 else 0)
      by_cases hlt : a < k
      · rw [if_pos hlt, if_pos (show a < k + 1 by omega)]; exact Nat.add_right_comm _ _ _
      · rw [if_neg hlt, if_neg (show ¬ a < k + 1 by omega)]; simp only [Nat.add_zero]

/-- A search under way. -/
structure PI (c : Nat → Nat → Int) (n K : Nat) (inf : Int) (row : Nat → Nat) (z : Int) (t : Nat) (s : PS) : Prop where
  pot : Pot c n K row s.u s.v
  used : ∀ j, s.us j = true → j ≤ K ∧ row j ≠ 0
  atN : s.us s.at_ = false
  atK : s.at_ ≤ K
  start : (∀ j, s.us j = false) → s.at_ = 0 ∧ ∀ j, s.sl j = inf
  root : ∀ j, s.us j = true → s.us 0 = true
  slLe : ∀ k, s.us k = true → ∀ j, 1 ≤ j → j ≤ K → s.us j = false → s.sl j ≤ redC c s.u s.v (row k) j
  slEq : s.us 0 = true → ∀ j, 1 ≤ j → j ≤ K → s.us j = false → s.us (s.fr j) = true ∧ s.sl j = redC c s.u s.v (row (s.fr j)) j
  edge : ∀ j, j ≠ 0 → (s.us j = true ∨ j = s.at_) → s.us (s.fr j) = true ∧ redC c s.u s.v (row (s.fr j)) j = 0
  rank : ∃ rk : Nat → Nat, (∀ j, s.us j = true → rk j < t) ∧ ∀ j, j ≠ 0 → s.us j = true → rk (s.fr j) < rk j
  num : cnt s.us (K + 1) = t
  vz : s.v 0 + s.u (row 0) = z

theorem markU_at (s : PS) : markU s s.at_ = true := if_pos rfl
theorem markU_us {s : PS} {j : Nat} (h : s.us j = true) : markU s j = true := by unfold markU; split <;> simp_all
theorem markU_false {s : PS} {j : Nat} (h : markU s j = false) : j ≠ s.at_ ∧ s.us j = false := by
  unfold markU at h
  split at h
  · cases h
  · next hn => exact ⟨hn, h⟩
theorem markU_true {s : PS} {j : Nat} (h : markU s j = true) : j = s.at_ ∨ s.us j = true := by
  unfold markU at h
  split at h
  · next e => exact .inl e
  · exact .inr h

theorem PI.step {c : Nat → Nat → Int} {n K : Nat} {inf : Int} {row : Nat → Nat} {z : Int} {t : Nat} {s : PS} (h : PI c n K inf row z t s) (hr : RowOk n K row) (hat : row s.at_ ≠ 0) {f : Nat} (f1 : 1 ≤ f) (fK : f ≤ K) (ff : row f = 0)
    (hinf : ∀ r, 1 ≤ r → r ≤ n → ∀ j, 1 ≤ j → j ≤ K → redC c s.u s.v r j < inf) : PI c n K inf row z (t + 1) (stepP c K inf row s) ∧ 1 ≤ (stepP c K inf row s).at_ ∧ 0 ≤ (bestS (markU s) (newSl c s (row s.at_)) inf K).1 ∧ (bestS (markU s) (newSl c s (row s.at_)) inf K).1 < inf := by
  have hr1 : 1 ≤ row s.at_ ∧ row s.at_ ≤ n := ⟨by omega, hr.le _ h.atK⟩
  have husd : ∀ j, markU s j = true → j ≤ K ∧ row j ≠ 0 := fun j hj => by
    rcases markU_true hj with e | e
    · rw [e]; exact ⟨h.atK, hat⟩
    · exact h.used j e
  have hinj : ∀ j j', markU s j = true → markU s j' = true → row j = row j' → j = j' := fun j j' h1 h2 e => hr.inj j j' (husd j h1).1 (husd j' h2).1 (husd j h1).2 e
  obtain ⟨sl, hsl⟩ : ∃ sl, newSl c s (row s.at_) = sl := ⟨_, rfl⟩
  obtain ⟨fr, hfr⟩ : ∃ fr, newFr c s (row s.at_) = fr := ⟨_, rfl⟩
  have hfu : markU s f = false := by
    cases hm : markU s f
    · rfl
    · exact absurd ff (husd f hm).2
  -- the slacks
  have hcase : ∀ j, 1 ≤ j → j ≤ K → markU s j = false → (∀ k, markU s k = true → sl j ≤ redC c s.u s.v (row k) j) ∧ markU s (fr j) = true ∧ sl j = redC c s.u s.v (row (fr j)) j := by
    intro j j1 jK hj
    obtain ⟨hja, hju⟩ := markU_false hj
    have e1 : sl j = if redC c s.u s.v (row s.at_) j < s.sl j then redC c s.u s.v (row s.at_) j else s.sl j := by rw [← hsl]; unfold newSl; rw [if_neg (by rw [hj]; decide)]
    have e2 : fr j = if redC c s.u s.v (row s.at_) j < s.sl j then s.at_ else s.fr j := by rw [← hfr]; unfold newFr; rw [if_neg (by rw [hj]; decide)]
    by_cases hlt : redC c s.u s.v (row s.at_) j < s.sl j
    · rw [if_pos hlt] at e1 e2
      refine ⟨fun k hk => ?_, by rw [e2]; exact markU_at s, by rw [e1, e2]⟩
      rcases markU_true hk with e | e
      · rw [e1, e]; exact Int.le_refl _
      · have := h.slLe k e j j1 jK hju
        rw [e1]; omega
    · rw [if_neg hlt] at e1 e2
      have hs0 : s.us 0 = true := by
        by_cases hst : ∀ j, s.us j = false
        · have := (h.start hst).2 j
          have h9 := hinf (row s.at_) hr1.1 hr1.2 j j1 jK
          omega
        · obtain ⟨k, hk⟩ := Classical.not_forall.1 hst
          exact h.root k (by simpa using hk)
      obtain ⟨g1, g2⟩ := h.slEq hs0 j j1 jK hju
      refine ⟨fun k hk => ?_, by rw [e2]; exact markU_us g1, by rw [e1, e2]; exact g2⟩
      rcases markU_true hk with e | e
      · rw [e1, e]; omega
      · rw [e1]; exact h.slLe k e j j1 jK hju
  obtain ⟨b1, b2, b3, b4⟩ := bestS_spec (us := markU s) (sl := sl) (inf := inf) (k := K)
  obtain ⟨d, hd⟩ : ∃ d, (bestS (markU s) sl inf K).1 = d := ⟨_, rfl⟩
  obtain ⟨nx, hnx⟩ : ∃ nx, (bestS (markU s) sl inf K).2 = nx := ⟨_, rfl⟩
  rw [hd] at b1 b2 b3 b4
  rw [hnx] at b3 b4
  have hdf : d < inf := by
    have g1 := b1 f f1 fK hfu
    have g2 := (hcase f f1 fK hfu).1 s.at_ (markU_at s)
    have g3 := hinf _ hr1.1 hr1.2 f f1 fK
    omega
  have hnx0 : nx ≠ 0 := fun e => by have := b3 e; omega
  obtain ⟨nK, nU, nS⟩ := b4 hnx0
  have hd0 : 0 ≤ d := by
    obtain ⟨_, g1, g2⟩ := hcase nx (by omega) nK nU
    have := (husd _ g1)
    have g3 := h.pot.feas (row (fr nx)) (by omega) (hr.le _ this.1) nx (by omega) nK
    omega
  -- the new potentials
  have hu : ∀ r, addU (markU s) row d s.u (K + 1) r = s.u r + if ∃ j, j < K + 1 ∧ markU s j = true ∧ row j = r then d else 0 := fun r => addU_spec hinj r
  have hin : ∀ k, markU s k = true → addU (markU s) row d s.u (K + 1) (row k) = s.u (row k) + d := fun k hk => by
    rw [hu, if_pos ⟨k, by have := (husd k hk).1; omega, hk, rfl⟩]
  obtain ⟨U, hU⟩ : ∃ U, addU (markU s) row d s.u (K + 1) = U := ⟨_, rfl⟩
  rw [hU] at hu hin
  obtain ⟨V, hV⟩ : ∃ V : Nat → Int, (fun j => if markU s j then s.v j - d else s.v j) = V := ⟨_, rfl⟩
  have hv1 : ∀ j, markU s j = true → V j = s.v j - d := fun j hj => by rw [← hV]; exact if_pos hj
  have hv2 : ∀ j, markU s j = false → V j = s.v j := fun j hj => by rw [← hV]; exact if_neg (by rw [hj]; decide)
  have hstep : stepP c K inf row s = { u := U, v := V, sl := fun j => if markU s j then sl j else sl j - d, fr := fr, us := markU s, at_ := nx } := by
    unfold stepP
    simp only [hsl, hfr, hd, hnx, hU, hV]
  rw [hstep]
  have hred1 : ∀ k, markU s k = true → ∀ j, markU s j = true → redC c U V (row k) j = redC c s.u s.v (row k) j := fun k hk j hj => by
    unfold redC; rw [hin k hk, hv1 j hj]; omega
  have hred2 : ∀ k, markU s k = true → ∀ j, markU s j = false → redC c U V (row k) j = redC c s.u s.v (row k) j - d := fun k hk j hj => by
    unfold redC; rw [hin k hk, hv2 j hj]; omega
  refine ⟨⟨⟨?_, ?_, ?_, ?_, ?_⟩, husd, nU, nK, fun hall => ?_, fun j hj => ?_, ?_, ?_, ?_, ?_, ?_, ?_⟩, by show 1 ≤ nx; omega, by rw [hsl, hd]; exact hd0, by rw [hsl, hd]; exact hdf⟩
  · -- feasible
    intro r r1 rn j j1 jK
    have h0 := h.pot.feas r r1 rn j j1 jK
    show 0 ≤ redC c U V r j
    by_cases he : ∃ k, k < K + 1 ∧ markU s k = true ∧ row k = r
    · obtain ⟨k, hk1, hk2, rfl⟩ := he
      cases hj : markU s j
      · rw [hred2 k hk2 j hj]
        have g1 := (hcase j j1 jK hj).1 k hk2
        have g2 := b1 j j1 jK hj
        omega
      · rw [hred1 k hk2 j hj]; exact h0
    · have hur : U r = s.u r := by rw [hu, if_neg he]; omega
      unfold redC at h0 ⊢
      rw [hur]
      cases hj : markU s j
      · rw [hv2 j hj]; exact h0
      · rw [hv1 j hj]; omega
  · -- tight
    intro j j1 jK hj0
    have h0 := h.pot.tight j j1 jK hj0
    show redC c U V (row j) j = 0
    cases hj : markU s j
    · have hur : U (row j) = s.u (row j) := by
        rw [hu, if_neg]
        · omega
        · rintro ⟨k, hk1, hk2, hk3⟩
          have := hr.inj k j (husd k hk2).1 jK (husd k hk2).2 hk3
          subst this
          rw [hj] at hk2; cases hk2
      unfold redC at h0 ⊢
      rw [hur, hv2 j hj]; exact h0
    · rw [hred1 j hj j hj]; exact h0
  · intro j j1 jK
    show V j ≤ 0
    have := h.pot.v0 j j1 jK
    cases hj : markU s j
    · rw [hv2 j hj]; exact this
    · rw [hv1 j hj]; omega
  · intro j j1 jK hj0
    show V j = 0
    have hj : markU s j = false := by
      cases hm : markU s j
      · rfl
      · exact absurd hj0 (husd j hm).2
    rw [hv2 j hj]; exact h.pot.vfree j j1 jK hj0
  · intro r
    show 0 ≤ U r
    rw [hu]
    have := h.pot.u0 r
    split <;> omega
  · have : markU s s.at_ = false := hall s.at_
    rw [markU_at] at this
    cases this
  · show markU s 0 = true
    rcases markU_true hj with e | e
    · by_cases h0 : s.at_ = 0
      · rw [← h0]; exact markU_at s
      · by_cases hst : ∀ j, s.us j = false
        · exact absurd (h.start hst).1 h0
        · obtain ⟨k, hk⟩ := Classical.not_forall.1 hst
          exact markU_us (h.root k (by simpa using hk))
    · exact markU_us (h.root j e)
  · intro k hk j j1 jK hj
    show (if markU s j then sl j else sl j - d) ≤ redC c U V (row k) j
    have hj : markU s j = false := hj
    rw [if_neg (by rw [hj]; decide), hred2 k hk j hj]
    have := (hcase j j1 jK hj).1 k hk
    omega
  · intro _ j j1 jK hj
    have hj : markU s j = false := hj
    obtain ⟨g0, g1, g2⟩ := hcase j j1 jK hj
    refine ⟨g1, ?_⟩
    show (if markU s j then sl j else sl j - d) = redC c U V (row (fr j)) j
    rw [if_neg (by rw [hj]; decide), hred2 _ g1 j hj, g2]
  · intro j hj0 hj
    show markU s (fr j) = true ∧ redC c U V (row (fr j)) j = 0
    rcases hj with hj | hj
    · have hj : markU s j = true := hj
      have e2 : fr j = s.fr j := by rw [← hfr]; unfold newFr; rw [if_pos hj]
      obtain ⟨g1, g2⟩ := h.edge j hj0 (by rcases markU_true hj with e | e; exact .inr e; exact .inl e)
      rw [e2]
      exact ⟨markU_us g1, by rw [hred1 _ (markU_us g1) j hj]; exact g2⟩
    · have hj : j = nx := hj
      subst hj
      obtain ⟨_, g1, g2⟩ := hcase j (by omega) nK nU
      exact ⟨g1, by rw [hred2 _ g1 j nU]; omega⟩
  · obtain ⟨rk, k1, k2⟩ := h.rank
    refine ⟨fun j => if j = s.at_ then t else rk j, fun j hj => ?_, fun j hj0 hj => ?_⟩
    · show (if j = s.at_ then t else rk j) < t + 1
      rcases markU_true hj with e | e
      · rw [if_pos e]; omega
      · have := k1 j e
        split <;> omega
    · have e2 : fr j = s.fr j := by rw [← hfr]; unfold newFr; rw [if_pos hj]
      show (if fr j = s.at_ then t else rk (fr j)) < (if j = s.at_ then t else rk j)
      have hne : ∀ q, s.us q = true → q ≠ s.at_ := fun q hq e => by rw [e, h.atN] at hq; cases hq
      rw [e2]
      rcases markU_true hj with e | e
      · have g1 := (h.edge j hj0 (.inr e)).1
        rw [if_neg (hne _ g1), if_pos e]
        exact k1 _ g1
      · have g1 := (h.edge j hj0 (.inl e)).1
        rw [if_neg (hne _ g1), if_neg (hne _ e)]
        exact k2 j hj0 e
  · show cnt (markU s) (K + 1) = t + 1
    rw [cnt_mark h.atN (markU_at s) (fun j hj => if_neg hj), h.num, if_pos (by have := h.atK; omega)]
  · show V 0 + U (row 0) = z
    have h0 : markU s 0 = true := by
      by_cases h0 : s.at_ = 0
      · rw [← h0]; exact markU_at s
      · by_cases hst : ∀ j, s.us j = false
        · exact absurd (h.start hst).1 h0
        · obtain ⟨k, hk⟩ := Classical.not_forall.1 hst
          exact markU_us (h.root k (by simpa using hk))
    rw [hv1 0 h0, hin 0 h0]
    have := h.vz
    omega

end Go.Proofs.Ytnpdkpbecmpdbaa
