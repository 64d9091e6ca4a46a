/-
  match: what the walk of a search wants to know of each state.
-/
import Derived.Test.YtnpdkpbecmpdbaaHs
set_option linter.unusedVariables false
set_option linter.unusedSimpArgs false
namespace Go.Proofs.Ytnpdkpbecmpdbaa
open Go.RowKit

/-- F' up to k, F behind it. -/
def midF {α : Type} (F' F : Nat → α) (k j : Nat) : α := if j < k then F' j else F j
theorem midF_lt {α : Type} {F' F : Nat → α} {k j : Nat} (h : j < k) : midF F' F k j = F' j := if_pos h
theorem midF_ge {α : Type} {F' F : Nat → α} {k j : Nat} (h : ¬ j < k) : midF F' F k j = F j := if_neg h
theorem midF_step {α : Type} {F' F : Nat → α} {k j : Nat} (h : j ≠ k) : midF F' F k j = midF F' F (k + 1) j := by
  by_cases hj : j < k
  · rw [midF_lt hj, midF_lt (by omega)]
  · rw [midF_ge hj, midF_ge (by omega)]
theorem midF_same {α : Type} {F' F : Nat → α} {k : Nat} (h : F' k = F k) (j : Nat) : midF F' F k j = midF F' F (k + 1) j := by
  by_cases hj : j = k
  · subst hj; rw [midF_ge (by omega), midF_lt (by omega), h]
  · exact midF_step hj
theorem midF_at {α : Type} {F' F : Nat → α} (k : Nat) : midF F' F (k + 1) k = F' k := midF_lt (Nat.lt_succ_self k)

theorem PI.mark0 {c : Nat → Nat → Int} {n K : Nat} {inf : Int} {row : Nat → Nat} {z : Int} {t : Nat} {s : PS} (h : PI c n K inf row z t s) : markU s 0 = true := by
  by_cases h0 : s.at_ = 0
  · rw [← h0]; exact markU_at s
  · by_cases hst : ∀ j, s.us j = false
    · exact absurd (h.start hst).1 h0
    · obtain ⟨k, hk⟩ := Classical.not_forall.1 hst
      exact markU_us (h.root k (by simpa using hk))

theorem PI.tle {c : Nat → Nat → Int} {n K : Nat} {inf : Int} {row : Nat → Nat} {z : Int} {t : Nat} {s : PS} (h : PI c n K inf row z t s) {f : Nat} (fK : f ≤ K) (ff : row f = 0) : t ≤ K := by
  have hfu : s.us f = false := by
    cases hm : s.us f
    · rfl
    · exact absurd ff (h.used f hm).2
  have h1 := cnt_lt (us := s.us) (k := K + 1) (f := f) (by omega) hfu
  have h2 := h.num
  omega

/-- The walk's facts of a state. -/
structure StF (c : Nat → Nat → Int) (n K : Nat) (inf : Int) (row : Nat → Nat) (t : Nat) (s : PS) (d : Int) (sl : Nat → Int) (us : Nat → Bool) : Prop where
  tK : t ≤ K
  m0 : us 0 = true
  uB : ∀ r, 1 ≤ r → r ≤ n → 0 ≤ s.u r ∧ s.u r ≤ far
  vB : ∀ j, 1 ≤ j → j ≤ K → -far ≤ s.v j ∧ s.v j ≤ 0
  v0 : ∀ j, j ≤ K → -2251799813685248 ≤ s.v j ∧ s.v j ≤ 2251799813685248
  mr : ∀ j, us j = true → j ≤ K ∧ 1 ≤ row j ∧ row j ≤ n
  slB : ∀ j, 1 ≤ j → j ≤ K → us j = false → d ≤ sl j ∧ sl j ≤ inf
  dB : 0 ≤ d ∧ d ≤ inf
  aB : ∀ k r, 1 ≤ r → r ≤ n → 0 ≤ addU us row d s.u k r ∧ addU us row d s.u k r ≤ far + inf

theorem PI.facts {c : Nat → Nat → Int} {n K : Nat} {inf : Int} {row : Nat → Nat} {z : Int} {t : Nat} {s : PS} (h : PI c n K inf row z t s) (hr : RowOk n K row) (hc : CostOk c n K) (hat : row s.at_ ≠ 0) {f : Nat} (f1 : 1 ≤ f) (fK : f ≤ K) (ff : row f = 0)
    (hinf : 2199023255552 < inf) (hz : -1125899906842624 ≤ z ∧ z ≤ 1125899906842624) :
    StF c n K inf row t s (bestS (markU s) (newSl c s (row s.at_)) inf K).1 (newSl c s (row s.at_)) (markU s) ∧
    PI c n K inf row z (t + 1) (stepP c K inf row s) := by
  have hle : ∀ j, 1 ≤ j → j ≤ K → row j ≤ n := fun j _ jK => hr.le j jK
  have hred : ∀ r, 1 ≤ r → r ≤ n → ∀ j, 1 ≤ j → j ≤ K → redC c s.u s.v r j < inf := fun r r1 rn j j1 jK => by
    have := h.pot.redLe hc hle f1 fK ff r1 rn j1 jK
    omega
  obtain ⟨p1, p2, p3, p4⟩ := h.step hr hat f1 fK ff hred
  obtain ⟨b1, b2, b3, b4⟩ := bestS_spec (us := markU s) (sl := newSl c s (row s.at_)) (inf := inf) (k := K)
  have hmk : ∀ j, markU s j = true → j ≤ K ∧ 1 ≤ row j ∧ row j ≤ n := fun j hj => by
    rcases markU_true hj with e | e
    · rw [e]; exact ⟨h.atK, by omega, hr.le _ h.atK⟩
    · obtain ⟨e1, e2⟩ := h.used j e
      exact ⟨e1, by omega, hr.le _ e1⟩
  have hfu : s.us f = false := by
    cases hm : s.us f
    · rfl
    · exact absurd ff (h.used f hm).2
  have hu : ∀ r, 1 ≤ r → r ≤ n → 0 ≤ s.u r ∧ s.u r ≤ far := fun r r1 rn => h.pot.uLe hc f1 fK ff r1 rn
  have hv : ∀ j, 1 ≤ j → j ≤ K → -far ≤ s.v j ∧ s.v j ≤ 0 := fun j j1 jK => h.pot.vLe hc hle f1 fK ff j1 jK
  refine ⟨⟨?_, h.mark0, hu, hv, fun j jK => ?_, hmk, fun j j1 jK hj => ⟨b1 j j1 jK hj, ?_⟩, ⟨p3, by omega⟩, fun k r r1 rn => ?_⟩, p1⟩
  · have h1 := cnt_lt (us := s.us) (k := K + 1) (f := f) (by omega) hfu
    have h2 := h.num
    omega
  · by_cases j0 : j = 0
    · subst j0
      have h1 := h.vz
      have h2 := hu (row 0) (hmk 0 h.mark0).2.1 (hmk 0 h.mark0).2.2
      simp only [far] at h2
      omega
    · have := hv j (by omega) jK
      simp only [far] at this
      omega
  · have hx := hred (row s.at_) (by omega) (hr.le _ h.atK) j j1 jK
    unfold newSl
    rw [if_neg (by rw [hj]; decide)]
    split <;> omega
  · have hx := hu r r1 rn
    rw [addU_spec (fun j j' h1 h2 e => hr.inj j j' (hmk j h1).1 (hmk j' h2).1 (by have := (hmk j h1).2.1; omega) e) r]
    split <;> simp only [far] at * <;> omega

theorem back_done {c : Nat → Nat → Int} {n K i : Nat} {row : Nat → Nat} {u v : Nat → Int} {inf : Int} {t : Nat} {s : PS} {rk row1 : Nat → Nat} (hd : HD c n K i row u v) (hi : i < n) (hnK : n ≤ K) (hc : CostOk c n K)
    (h : PI c n K inf (rootAt row (i + 1)) (v 0 + u (i + 1)) t s) (a : Aug c n K (i + 1) s.u s.v (rootAt row (i + 1)) s.fr s.us rk row1 0) : HD c n K (i + 1) row1 s.u s.v := by
  obtain ⟨f, f1, fK, ff⟩ := hd.free (by omega)
  have ffr : rootAt row (i + 1) f = 0 := by unfold rootAt; rw [if_neg (by omega)]; exact ff
  have h1 := hd.pot.uLe hc f1 fK ff (r := i + 1) (by omega) (by omega)
  have h2 := h.pot.uLe hc f1 fK ffr (r := i + 1) (by omega) (by omega)
  have h3 := hd.vz
  have h4 := h.vz
  have e0 : rootAt row (i + 1) 0 = i + 1 := rfl
  rw [e0] at h4
  refine a.done h.pot ?_ (fun _ _ => rfl)
  simp only [far] at *
  omega

end Go.Proofs.Ytnpdkpbecmpdbaa
