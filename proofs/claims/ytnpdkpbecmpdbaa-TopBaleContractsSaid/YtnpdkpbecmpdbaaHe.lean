/-
  match: tables with a column of each row's own; the first assignment of the least cost.
-/
import Derived.Test.YtnpdkpbecmpdbaaHd
set_option linter.unusedVariables false
set_option linter.unusedSimpArgs false
namespace Go.Proofs.Ytnpdkpbecmpdbaa
open Go.RowKit

theorem cost_congr {T T' : Nat → Nat → Int} {n : Nat} {a a' : Nat → Nat} (h : ∀ r, r < n → T r (a r) = T' r (a' r)) : cost T n a = cost T' n a' := sumR_congr h
theorem Asg.congr {n K : Nat} {a a' : Nat → Nat} (h : Asg n K a) (e : ∀ r, r < n → a r = a' r) : Asg n K a' :=
  ⟨fun r hr => by rw [← e r hr]; exact h.lt r hr, fun r r' hr hr' he => h.inj r r' hr hr' (by rw [e r hr, e r' hr']; exact he)⟩

/-- k columns for all, and one more for each row, which only it can have. -/
structure WideOk (T : Nat → Nat → Int) (n k : Nat) : Prop where
  le : ∀ i, i < n → ∀ j, j < k + n → 0 ≤ T i j ∧ T i j ≤ far
  own : ∀ i, i < n → T i (k + i) < far
  other : ∀ i, i < n → ∀ r, r < n → r ≠ i → T i (k + r) = far

def swapCol (T : Nat → Nat → Int) (k : Nat) (a : Nat → Nat) (r : Nat) : Nat := if T r (a r) = far then k + r else a r

section
variable {T : Nat → Nat → Int} {n k : Nat}
theorem WideOk.swapped (h : WideOk T n k) {a : Nat → Nat} (ha : Asg n (k + n) a) : Asg n (k + n) (swapCol T k a) ∧ (∀ r, r < n → T r (swapCol T k a r) < far) ∧ (∀ r, r < n → T r (swapCol T k a r) ≤ T r (a r)) ∧
    ∀ r, r < n → T r (a r) = far → T r (swapCol T k a r) < T r (a r) := by
  have h1 : ∀ r, r < n → T r (swapCol T k a r) < far := fun r hr => by
    unfold swapCol
    split
    · exact h.own r hr
    · next hne => have := (h.le r hr _ (ha.lt r hr)).2; omega
  have h2 : ∀ r, r < n → T r (a r) = far → T r (swapCol T k a r) < T r (a r) := fun r hr e => by rw [e]; exact h1 r hr
  refine ⟨⟨fun r hr => ?_, fun r r' hr hr' e => ?_⟩, h1, fun r hr => ?_, h2⟩
  · unfold swapCol
    split
    · omega
    · exact ha.lt r hr
  · unfold swapCol at e
    by_cases e1 : T r (a r) = far
    · by_cases e2 : T r' (a r') = far
      · rw [if_pos e1, if_pos e2] at e; omega
      · rw [if_pos e1, if_neg e2] at e
        by_cases hne : r = r'
        · exact hne
        · exact absurd (by rw [← e]; exact h.other r' hr' r hr hne) e2
    · by_cases e2 : T r' (a r') = far
      · rw [if_neg e1, if_pos e2] at e
        by_cases hne : r' = r
        · exact hne.symm
        · exact absurd (by rw [e]; exact h.other r hr r' hr' hne) e1
      · rw [if_neg e1, if_neg e2] at e; exact ha.inj r r' hr hr' e
  · by_cases e1 : T r (a r) = far
    · have := h2 r hr e1; omega
    · have : swapCol T k a r = a r := if_neg e1
      rw [this]; exact Int.le_refl _
/-- An assignment of the least cost has no pair that is far. -/
theorem WideOk.near (h : WideOk T n k) {t : Int} (ht : ∀ a, Asg n (k + n) a → t ≤ cost T n a) {a : Nat → Nat} (ha : Asg n (k + n) a) (he : cost T n a = t) {r : Nat} (hr : r < n) : T r (a r) < far := by
  obtain ⟨h1, h2, h3, h4⟩ := h.swapped ha
  by_cases hf : T r (a r) = far
  · have h5 : cost T n (swapCol T k a) ≤ cost T n a := sumR_le h3
    have h6 := ht _ h1
    have := sumR_eq h3 (show cost T n (swapCol T k a) = cost T n a by omega) r hr
    have := h4 r hr hf
    omega
  · have := (h.le r hr _ (ha.lt r hr)).2
    omega

/-- The rows under i have the columns w alone. -/
def restr (T : Nat → Nat → Int) (w : Nat → Nat) (i : Nat) (r q : Nat) : Int := if r < i ∧ q ≠ w r then far else T r q

theorem restr_ge (h : WideOk T n k) (w : Nat → Nat) (i : Nat) {r q : Nat} (hr : r < n) (hq : q < k + n) : T r q ≤ restr T w i r q := by
  unfold restr
  split
  · exact (h.le r hr q hq).2
  · exact Int.le_refl _

def Good (T : Nat → Nat → Int) (n k : Nat) (t : Int) (w : Nat → Nat) (i : Nat) : Prop := ∃ a, Asg n (k + n) a ∧ cost T n a = t ∧ ∀ r, r < i → a r = w r

theorem least_restr (h : WideOk T n k) {t : Int} (ht : LeastIs T n (k + n) t) (w : Nat → Nat) {i : Nat} (hi : i ≤ n) : LeastIs (restr T w i) n (k + n) t ↔ Good T n k t w i := by
  have hge : ∀ a, Asg n (k + n) a → cost T n a ≤ cost (restr T w i) n a := fun a ha => sumR_le fun r hr => restr_ge h w i hr (ha.lt r hr)
  constructor
  · rintro ⟨⟨a, ha, he⟩, hl⟩
    have h1 := hge a ha
    have h2 := ht.2 a ha
    have h3 : cost T n a = t := by omega
    refine ⟨a, ha, h3, fun r hr => ?_⟩
    have h4 := sumR_eq (fun r hr => restr_ge h w i hr (ha.lt r hr)) (show cost T n a = cost (restr T w i) n a by omega) r (by omega)
    by_cases hw : a r = w r
    · exact hw
    · have h4 : T r (a r) = restr T w i r (a r) := h4
      have h5 := h.near ht.2 ha h3 (show r < n by omega)
      unfold restr at h4
      rw [if_pos ⟨hr, hw⟩] at h4
      omega
  · rintro ⟨a, ha, he, hw⟩
    refine ⟨⟨a, ha, ?_⟩, fun b hb => Int.le_trans (ht.2 b hb) (hge b hb)⟩
    rw [← he]
    refine cost_congr fun r hr => ?_
    unfold restr
    exact if_neg fun hh => hh.2 (hw r hh.1)

/-- The first assignment of the least cost. -/
structure First (T : Nat → Nat → Int) (n k : Nat) (t : Int) (w : Nat → Nat) : Prop where
  asg : Asg n (k + n) w
  cost : cost T n w = t
  least : ∀ a, Asg n (k + n) a → t ≤ Proofs.Ytnpdkpbecmpdbaa.cost T n a
  first : ∀ i, i < n → ∀ a, Asg n (k + n) a → Proofs.Ytnpdkpbecmpdbaa.cost T n a = t → (∀ r, r < i → a r = w r) → w i ≤ a i

theorem First.leastIs {t : Int} {w : Nat → Nat} (h : First T n k t w) : LeastIs T n (k + n) t := ⟨⟨w, h.asg, h.cost⟩, h.least⟩
theorem First.unique {t t' : Int} {w w' : Nat → Nat} (h : First T n k t w) (h' : First T n k t' w') : t = t' ∧ ∀ i, i < n → w i = w' i := by
  obtain rfl := h.leastIs.unique h'.leastIs
  refine ⟨rfl, fun i => ?_⟩
  induction i using Nat.strongRecOn with
  | _ i ih =>
    intro hi
    have h1 := h.first i hi w' h'.asg h'.cost fun r hr => (ih r hr (by omega)).symm
    have h2 := h'.first i hi w h.asg h.cost fun r hr => ih r hr (by omega)
    omega

/-- The rows under i have their columns. -/
structure Upto (T : Nat → Nat → Int) (n k : Nat) (t : Int) (w : Nat → Nat) (i : Nat) : Prop where
  good : Good T n k t w i
  first : ∀ i', i' < i → ∀ a, Asg n (k + n) a → cost T n a = t → (∀ r, r < i' → a r = w r) → w i' ≤ a i'

def upd (w : Nat → Nat) (i j : Nat) : Nat → Nat := fun r => if r = i then j else w r
theorem upd_at (w : Nat → Nat) (i j : Nat) : upd w i j i = j := if_pos rfl
theorem upd_ne (w : Nat → Nat) {i j r : Nat} (h : r ≠ i) : upd w i j r = w r := if_neg h

theorem Upto.zero {t : Int} (ht : LeastIs T n (k + n) t) (w : Nat → Nat) : Upto T n k t w 0 := by
  obtain ⟨⟨a, h1, h2⟩, _⟩ := ht
  exact ⟨⟨a, h1, h2, fun r hr => absurd hr (Nat.not_lt_zero r)⟩, fun i' hi => absurd hi (Nat.not_lt_zero i')⟩
theorem Upto.step {t : Int} {w : Nat → Nat} {i j : Nat} (h : Upto T n k t w i) (hg : Good T n k t (upd w i j) (i + 1)) (hn : ∀ j', j' < j → ¬ Good T n k t (upd w i j') (i + 1)) : Upto T n k t (upd w i j) (i + 1) := by
  refine ⟨hg, fun i' hi a ha he hw => ?_⟩
  by_cases hii : i' = i
  · subst hii
    rw [upd_at]
    by_cases hlt : a i' < j
    · refine absurd ⟨a, ha, he, fun r hr => ?_⟩ (hn _ hlt)
      by_cases hri : r = i'
      · subst hri; rw [upd_at]
      · rw [upd_ne _ hri, hw r (by omega), upd_ne _ hri]
    · omega
  · rw [upd_ne _ hii]
    exact h.first i' (by omega) a ha he fun r hr => by rw [hw r hr, upd_ne _ (by omega)]
theorem Upto.done {t : Int} {w : Nat → Nat} (ht : LeastIs T n (k + n) t) (h : Upto T n k t w n) : First T n k t w := by
  obtain ⟨a, h1, h2, h3⟩ := h.good
  exact ⟨h1.congr h3, by rw [← h2]; exact cost_congr fun r hr => by rw [h3 r hr], ht.2, h.first⟩
/-- No column for all is good: the row's own one is. -/
theorem Upto.own (hW : WideOk T n k) {t : Int} (ht : LeastIs T n (k + n) t) {w : Nat → Nat} {i : Nat} (hi : i < n) (h : Upto T n k t w i) (hn : ∀ j', j' < k → ¬ Good T n k t (upd w i j') (i + 1)) :
    Good T n k t (upd w i (k + i)) (i + 1) ∧ ∀ j', j' < k + i → ¬ Good T n k t (upd w i j') (i + 1) := by
  have hk : ∀ a, Asg n (k + n) a → cost T n a = t → (∀ r, r < i → a r = w r) → a i = k + i := fun a ha he hw => by
    have h1 : ¬ a i < k := fun hlt => hn _ hlt ⟨a, ha, he, fun r hr => by
      by_cases hri : r = i
      · subst hri; rw [upd_at]
      · rw [upd_ne _ hri, hw r (by omega)]⟩
    have h2 := ha.lt i hi
    have h3 := hW.near ht.2 ha he hi
    by_cases e : a i - k = i
    · omega
    · have := hW.other i hi (a i - k) (by omega) e
      rw [show k + (a i - k) = a i by omega] at this
      omega
  obtain ⟨a, ha, he, hw⟩ := h.good
  refine ⟨⟨a, ha, he, fun r hr => ?_⟩, fun j' hj => ?_⟩
  · by_cases hri : r = i
    · subst hri; rw [upd_at]; exact hk a ha he hw
    · rw [upd_ne _ hri, hw r (by omega)]
  · rintro ⟨b, hb, hbe, hbw⟩
    have h1 := hk b hb hbe fun r hr => by rw [hbw r (by omega), upd_ne _ (by omega)]
    have h2 := hbw i (by omega)
    rw [upd_at] at h2
    omega

/-- A pair that is far, or not tight, is not good. -/
theorem not_good_far (hW : WideOk T n k) {t : Int} (ht : LeastIs T n (k + n) t) {w : Nat → Nat} {i j : Nat} (hi : i < n) (hf : T i j = far) : ¬ Good T n k t (upd w i j) (i + 1) := by
  rintro ⟨a, ha, he, hw⟩
  have h1 := hw i (by omega)
  rw [upd_at] at h1
  have := hW.near ht.2 ha he hi
  rw [h1, hf] at this
  omega
theorem not_good_tight (hW : WideOk T n k) {t : Int} (ht : LeastIs T n (k + n) t) {u v : Nat → Int} (hp : PotOk T n (k + n) u v t) {w : Nat → Nat} {i j : Nat} (hi : i < n) (hj : j < k) (hne : u i + v (k + i) + v j ≠ T i j) :
    ¬ Good T n k t (upd w i j) (i + 1) := by
  rintro ⟨a, ha, he, hw⟩
  have h1 := hw i (by omega)
  rw [upd_at] at h1
  obtain ⟨k1, k2⟩ := hp.tight ha he
  have h2 := k1 i hi
  have h3 := k2 (k + i) (by omega) fun r hr e => by
    by_cases hri : r = i
    · subst hri; omega
    · have h4 := hW.other r hr i hi (fun e2 => hri e2.symm)
      have h5 := hW.near ht.2 ha he hr
      rw [e] at h5
      omega
  rw [h1] at h2
  omega
end

end Go.Proofs.Ytnpdkpbecmpdbaa
