/-
  What a price is; what purities do as more of a material is added.
-/
import Derived.Test.YtoneoeckilaglaaGi
set_option linter.unusedVariables false
set_option linter.unusedSimpArgs false
namespace Go.Proofs.Ytoneoeckilaglaa
open Go.RowKit

theorem price_near {g p : Int} (h0 : 0 ≤ g) (h1 : g ≤ 1073741824) (h2 : -1000000 ≤ p) (h3 : p ≤ 1000000) :
    ∃ x, scaleN g p 1000000 2 = (x, 0) ∧ -500000 ≤ g * p - x * 1000000 ∧ g * p - x * 1000000 ≤ 500000 ∧ -1073741825 ≤ x ∧ x ≤ 1073741825 := by
  have hgood : goodN g p 1000000 2 = true := by
    simp only [goodN, inB, Bool.and_eq_true, decide_eq_true_eq]
    omega
  rw [scaleN_ok hgood]
  unfold quoN
  obtain ⟨A, hA⟩ : ∃ A, A = g.natAbs * p.natAbs := ⟨_, rfl⟩
  have hle : A ≤ 1073741824 * 1000000 := by rw [hA]; exact Nat.mul_le_mul (by omega) (by omega)
  have hprod : g * p = signN (negB g p 1000000) A := by
    have hneg : negB g p 1000000 = decide (p < 0) := by
      unfold negB
      rw [decide_eq_false (show ¬ g < 0 by omega)]
      by_cases hp : p < 0 <;> simp [hp]
    rw [hneg, hA]
    have eg : g = (g.natAbs : Int) := by omega
    by_cases hp : p < 0
    · rw [decide_eq_true hp]
      show _ = -((g.natAbs * p.natAbs : Nat) : Int)
      rw [Int.natCast_mul, ← eg, ← Int.mul_neg]
      congr 1
      omega
    · rw [decide_eq_false hp]
      show _ = ((g.natAbs * p.natAbs : Nat) : Int)
      rw [Int.natCast_mul, ← eg]
      congr 1
      omega
  rw [← hA, hprod]
  have hZ : (1000000 : Int).natAbs = 1000000 := rfl
  rw [hZ, upB2]
  have hdm := Nat.div_add_mod A 1000000
  have hmod := Nat.mod_lt A (show 0 < 1000000 by omega)
  generalize A / 1000000 = Q at *
  generalize A % 1000000 = R at *
  generalize negB g p 1000000 = ng
  clear hA hprod hgood hZ
  obtain ⟨u, hu⟩ : ∃ u : Nat, (if decide (1000000 ≤ 2 * R) = true then 1 else 0) = u := ⟨_, rfl⟩
  have hu2 : (1000000 ≤ 2 * R ∧ u = 1) ∨ (¬ 1000000 ≤ 2 * R ∧ u = 0) := by
    by_cases h : 1000000 ≤ 2 * R
    · exact .inl ⟨h, by rw [← hu, if_pos (decide_eq_true h)]⟩
    · exact .inr ⟨h, by rw [← hu, if_neg (by simpa using h)]⟩
  rw [hu]
  clear hu
  have hc : inB (signN ng (Q + u)) = true := by
    refine inB_true.2 ?_
    cases ng <;> simp only [signN] <;> simp <;> omega
  refine ⟨_, chkN_ok hc, ?_⟩
  cases ng <;> simp only [signN] <;> simp <;> omega

theorem price_mono {g p1 p2 x1 x2 : Int} (h0 : 0 ≤ g) (h1 : g ≤ 1073741824) (a2 : -1000000 ≤ p1) (a3 : p1 ≤ 1000000) (b2 : -1000000 ≤ p2) (b3 : p2 ≤ 1000000) (hp : p2 ≤ p1)
    (e1 : scaleN g p1 1000000 2 = (x1, 0)) (e2 : scaleN g p2 1000000 2 = (x2, 0)) : x2 ≤ x1 := by
  obtain ⟨y1, f1, c1, c2, _, _⟩ := price_near h0 h1 a2 a3
  obtain ⟨y2, f2, d1, d2, _, _⟩ := price_near h0 h1 b2 b3
  obtain rfl : x1 = y1 := by rw [e1] at f1; simpa using f1
  obtain rfl : x2 = y2 := by rw [e2] at f2; simpa using f2
  have hm : g * p2 ≤ g * p1 := Int.mul_le_mul_of_nonneg_left hp h0
  by_cases hx : x2 ≤ x1
  · exact hx
  · have heq : g * p1 = g * p2 := by omega
    by_cases hg : g = 0
    · subst hg
      simp at c1 c2 d1 d2
      omega
    · have h := Int.eq_of_mul_eq_mul_left hg heq
      subst h
      rw [e1] at e2
      have : x1 = x2 := by simpa using e2
      omega

theorem classAt_mono {l : List (Int × Int)} {P P' : Int} (hP : P ≤ P') : ∀ {k : Int}, 0 ≤ k → classAt l P k ≠ -1 → k ≤ classAt l P' k ∧ classAt l P' k ≤ classAt l P k := by
  induction l with
  | nil => intro k _ h; exact absurd rfl h
  | cons g r ih =>
    intro k hk h
    unfold classAt at h ⊢
    by_cases h1 : g.1 ≤ P
    · rw [if_pos h1, if_pos (by omega)]
      exact ⟨Int.le_refl _, Int.le_refl _⟩
    · rw [if_neg h1] at h ⊢
      obtain ⟨i1, i2⟩ := ih (by omega) h
      by_cases h2 : g.1 ≤ P'
      · rw [if_pos h2]
        rcases classAt_bound r P (k + 1) (by omega) with h3 | h3
        · exact absurd h3 h
        · exact ⟨Int.le_refl _, by omega⟩
      · rw [if_neg h2]
        exact ⟨by omega, i2⟩

theorem classAt_take {P : Int} : ∀ (l : List (Int × Int)) (n : Nat) (k : Int), 0 ≤ k → classAt (l.take n) P k = if classAt l P k < k + n then classAt l P k else -1 := by
  intro l
  induction l with
  | nil =>
    intro n k hk
    rw [List.take_nil]
    show (-1 : Int) = if (-1 : Int) < _ then -1 else -1
    split <;> rfl
  | cons g r ih =>
    intro n k hk
    cases n with
    | zero =>
      rcases classAt_bound (g :: r) P k hk with h | h
      · rw [h]
        show (-1 : Int) = _
        split <;> rfl
      · rw [if_neg (by omega)]; simp [classAt]
    | succ n =>
      show (if g.1 ≤ P then k else classAt (r.take n) P (k + 1)) = if (if g.1 ≤ P then k else classAt r P (k + 1)) < k + (n + 1 : Nat) then (if g.1 ≤ P then k else classAt r P (k + 1)) else -1
      by_cases h1 : g.1 ≤ P
      · rw [if_pos h1, if_pos h1, if_pos (by omega)]
      · rw [if_neg h1, if_neg h1, ih n (k + 1) (by omega)]
        have e : k + 1 + (n : Int) = k + (n + 1 : Nat) := by omega
        rw [e]

theorem pur_mono {x S m : Int} (h0 : 0 ≤ x) (h1 : x ≤ S) (h2 : 0 < S) (hm : 0 ≤ m) : x * 1000 / S ≤ (x + m) * 1000 / (S + m) := by
  obtain ⟨q, hq⟩ : ∃ q, q = x * 1000 / S := ⟨_, rfl⟩
  have a1 : q * S ≤ x * 1000 := by rw [hq]; exact Int.ediv_mul_le _ (by omega)
  have a2 : q ≤ 1000 := by
    rw [hq]
    refine Int.le_of_lt_add_one (Int.ediv_lt_of_lt_mul h2 ?_)
    have : x * 1000 ≤ S * 1000 := Int.mul_le_mul_of_nonneg_right h1 (by omega)
    omega
  rw [← hq]
  refine (Int.le_ediv_iff_mul_le (by omega)).2 ?_
  rw [Int.mul_add, Int.add_mul]
  have a3 : q * m ≤ 1000 * m := Int.mul_le_mul_of_nonneg_right a2 hm
  omega

/-- The list without its last class. -/
theorem chkG_take {l : List (Int × Int)} {n : Nat} (h : chkG l = 0) (h1 : 1 ≤ n) (hn : n ≤ l.length) : chkG (l.take n) = 0 := by
  obtain ⟨f1, f2, f3, f4⟩ := chkG_facts h
  have hlen : (l.take n).length = n := by rw [List.length_take]; omega
  have hany : (l.take n).any badG = false := by
    rw [List.any_eq_false]
    intro g hg
    obtain ⟨k, hk, rfl⟩ := List.mem_iff_getElem.1 hg
    rw [hlen] at hk
    have e : (l.take n)[k] = gx l k := by rw [List.getElem_take, gx_eq (by omega)]
    rw [e]
    have := f3 k (by omega)
    simp [badG]
    omega
  rw [chkG_fine (by omega) (by omega) hany, hlen]
  rw [if_neg]
  intro hc
  unfold unTo at hc
  rw [List.any_eq_true] at hc
  obtain ⟨j, hj, hs⟩ := hc
  have hj := List.mem_range.1 hj
  rw [stepG_true, gx_take (by omega), gx_take (by omega)] at hs
  have := f4 j (by omega)
  omega

end Go.Proofs.Ytoneoeckilaglaa
