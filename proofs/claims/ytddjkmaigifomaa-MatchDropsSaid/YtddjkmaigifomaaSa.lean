/-
  match: the first assignment of a table in which a row is shifted, or a column is dropped.
-/
import Derived.Test.YtddjkmaigifomaaMn
set_option linter.unusedVariables false
set_option linter.unusedSimpArgs false
namespace Go.Proofs.Ytddjkmaigifomaa
open Go.RowKit

theorem sumR_shift {n r : Nat} {d : Int} {f g : Nat → Int} (hr : r < n) (h1 : g r = f r + d) (h2 : ∀ i, i < n → i ≠ r → g i = f i) : sumR n g = sumR n f + d := by
  have h3 : sumR n (fun i => if i = r then d else 0) = d := by rw [sumR_single hr (fun i _ hne => if_neg hne), if_pos rfl]
  have : sumR n g = sumR n (fun i => f i + if i = r then d else 0) := sumR_congr fun i hi => by
    by_cases e : i = r
    · subst e; rw [if_pos rfl]; exact h1
    · rw [if_neg e, h2 i hi e]; omega
  rw [this, sumR_add, h3]

theorem first_shift {T T' : Nat → Nat → Int} {n k r : Nat} {t t' d : Int} {w w' : Nat → Nat} (hW : WideOk T n k) (hW' : WideOk T' n k) (hr : r < n)
    (hT : ∀ i, i < n → ∀ j, j < k + n → T' i j = if i = r ∧ T i j ≠ far then T i j + d else T i j) (h : First T n k t w) (h' : First T' n k t' w') : t' = t + d ∧ ∀ i, i < n → w' i = w i := by
  have n1 := hW.near h.least h.asg h.cost hr
  have n2 := hW'.near h'.least h'.asg h'.cost hr
  have c1 : cost T' n w = t + d := by
    rw [← h.cost]
    refine sumR_shift hr ?_ fun i hi hne => ?_
    · show T' r (w r) = _
      rw [hT r hr _ (h.asg.lt r hr), if_pos ⟨rfl, by omega⟩]
    · show T' i (w i) = _
      rw [hT i hi _ (h.asg.lt i hi), if_neg (fun e => hne e.1)]
  have c2 : cost T' n w' = cost T n w' + d := by
    refine sumR_shift hr ?_ fun i hi hne => ?_
    · show T' r (w' r) = _
      have g := hT r hr _ (h'.asg.lt r hr)
      by_cases e : T r (w' r) = far
      · rw [if_neg (fun h => h.2 e)] at g; omega
      · rw [g, if_pos ⟨rfl, e⟩]
    · show T' i (w' i) = _
      rw [hT i hi _ (h'.asg.lt i hi), if_neg (fun e => hne e.1)]
  have l1 := h.least _ h'.asg
  have l2 := h'.least _ h.asg
  have e2 := h'.cost
  have ht : t' = t + d := by omega
  refine ⟨ht, fun i => ?_⟩
  induction i using Nat.strongRecOn with
  | _ i ih =>
    intro hi
    have h1 := h.first i hi w' h'.asg (by omega) fun r hr => ih r hr (by omega)
    have h2 := h'.first i hi w h.asg (by omega) fun r hr => (ih r hr (by omega)).symm
    omega

/-- The columns but one. -/
def skipC (col j : Nat) : Nat := if j < col then j else j + 1
def dropC (col j : Nat) : Nat := if col < j then j - 1 else j

theorem first_drop {T T' : Nat → Nat → Int} {n k k' col : Nat} {t t' : Int} {w w' : Nat → Nat} (hk : k = k' + 1) (hcol : col < k)
    (hT : ∀ i, i < n → ∀ j, j < k' + n → T' i j = T i (skipC col j)) (h : First T n k t w) (h' : First T' n k' t' w') : t ≤ t' ∧ ((∀ i, i < n → w i ≠ col) → t = t' ∧ ∀ i, i < n → w' i = dropC col (w i)) := by
  have a1 : Asg n (k + n) fun r => skipC col (w' r) := ⟨fun r hr => by have := h'.asg.lt r hr; unfold skipC; split <;> omega, fun r r' hr hr' e => h'.asg.inj r r' hr hr' (by
    have e : skipC col (w' r) = skipC col (w' r') := e
    unfold skipC at e
    split at e <;> split at e <;> omega)⟩
  have c1 : cost T n (fun r => skipC col (w' r)) = t' := by
    rw [← h'.cost]
    exact sumR_congr fun i hi => (hT i hi _ (h'.asg.lt i hi)).symm
  have l1 := h.least _ a1
  refine ⟨by omega, fun hne => ?_⟩
  have hsd : ∀ i, i < n → skipC col (dropC col (w i)) = w i := fun i hi => by
    have := hne i hi
    unfold skipC dropC
    split <;> split <;> omega
  have a2 : Asg n (k' + n) fun r => dropC col (w r) := ⟨fun r hr => by have := h.asg.lt r hr; have := hne r hr; unfold dropC; split <;> omega, fun r r' hr hr' e => h.asg.inj r r' hr hr' (by
    have e : dropC col (w r) = dropC col (w r') := e
    rw [← hsd r hr, ← hsd r' hr', e])⟩
  have c2 : cost T' n (fun r => dropC col (w r)) = t := by
    rw [← h.cost]
    refine sumR_congr fun i hi => ?_
    show T' i (dropC col (w i)) = T i (w i)
    rw [hT i hi _ (a2.lt i hi), hsd i hi]
  have l2 := h'.least _ a2
  have ht : t = t' := by omega
  refine ⟨ht, fun i => ?_⟩
  induction i using Nat.strongRecOn with
  | _ i ih =>
    intro hi
    have h1 := h.first i hi _ a1 (by omega) fun r hr => by
      show skipC col (w' r) = w r
      rw [ih r hr (by omega), hsd r (by omega)]
    have h2 := h'.first i hi _ a2 (by omega) fun r hr => (ih r hr (by omega)).symm
    have h1 : w i ≤ skipC col (w' i) := h1
    have h2 : w' i ≤ dropC col (w i) := h2
    have := hne i hi
    unfold skipC at h1
    unfold dropC at h2 ⊢
    split at h1 <;> split at h2 <;> first | (rw [if_pos ‹_›]; omega) | (rw [if_neg ‹_›]; omega)

theorem chkM_ok {C : List (List Int)} {sk : List Int} {n k : Nat} (hR : Rect C n k) (hl : sk.length = n) (n24 : n ≤ 24) (k24 : k ≤ 24) (hn0 : 0 < n) (hc : ∀ r, r < n → ∀ j, j < k → -1 ≤ ix (rx C r) j ∧ ix (rx C r) j ≤ 1000000000)
    (hs : ∀ r, r < n → 0 ≤ ix sk r ∧ ix sk r ≤ 1000000000) : chkM C sk = 0 := by
  obtain ⟨h1, h2⟩ := hR
  rw [chkM_skip (by omega) (by omega) fun i hi => rowE_ok (by rw [h2 i (by omega)]; omega) (by rw [h2 i (by omega), h2 0 hn0]) (badL_none fun j hj => by
    rw [h2 i (by omega)] at hj
    have := hc i (by omega) j hj
    omega)]
  rw [badL_none fun i hi => by have := hs i (by omega); omega]
  rfl

section
variable {C C' : List (List Int)} {sk sk' : List Int} {n k r : Nat} {d : Int}
/-- A row shifted: the tables. -/
theorem tab_shift (hp : ProbOk C sk n k) (hr : r < n) (hc : ∀ i, i < n → ∀ j, j < k → ix (rx C' i) j = if i = r ∧ 0 ≤ ix (rx C i) j then ix (rx C i) j + d else ix (rx C i) j)
    (hs : ∀ i, i < n → ix sk' i = if i = r then ix sk i + d else ix sk i) (hd : 0 ≤ d) : ∀ i, i < n → ∀ j, j < k + n → tabM C' sk' k i j = if i = r ∧ tabM C sk k i j ≠ far then tabM C sk k i j + d else tabM C sk k i j := by
  intro i hi j hj
  by_cases hjk : j < k
  · rw [tab_common hjk, tab_common hjk, hc i hi j hjk]
    have hx := hp.cost i hi j hjk
    generalize ix (rx C i) j = x at hx
    by_cases e : i = r
    · by_cases e2 : x = -1
      · rw [show (if i = r ∧ 0 ≤ x then x + d else x) = x from if_neg (fun h => by omega), if_pos e2, if_neg (fun h => h.2 rfl)]
      · rw [show (if i = r ∧ 0 ≤ x then x + d else x) = x + d from if_pos ⟨e, by omega⟩, if_neg e2, if_neg (by omega), if_pos ⟨e, by simp only [far]; omega⟩]
    · rw [show (if i = r ∧ 0 ≤ x then x + d else x) = x from if_neg (fun h => e h.1)]
      exact (if_neg (fun h => e h.1)).symm
  · obtain ⟨q, rfl⟩ : ∃ q, j = k + q := ⟨j - k, by omega⟩
    by_cases hq : q = i
    · subst hq
      rw [tab_own, tab_own, hs q hi]
      have hx := hp.skip q hi
      by_cases e : q = r
      · rw [if_pos e, if_pos ⟨e, by simp only [far]; omega⟩]
      · rw [if_neg e, if_neg (fun h => e h.1)]
    · have h1 : ∀ (C : List (List Int)) (sk : List Int), tabM C sk k i (k + q) = far := fun C sk => by unfold tabM wideT; rw [if_neg (by omega), if_neg (by omega)]
      rw [h1, h1, if_neg (fun h => h.2 rfl)]
theorem tab_drop {k' col : Nat} (hk : k = k' + 1) (hcol : col < k) (hc : ∀ i, i < n → ∀ j, j < k' → ix (rx C' i) j = ix (rx C i) (skipC col j)) : ∀ i, i < n → ∀ j, j < k' + n → tabM C' sk k' i j = tabM C sk k i (skipC col j) := by
  intro i hi j hj
  by_cases hjk : j < k'
  · rw [tab_common hjk, tab_common (by unfold skipC; split <;> omega), hc i hi j hjk]
  · obtain ⟨q, rfl⟩ : ∃ q, j = k' + q := ⟨j - k', by omega⟩
    have e : skipC col (k' + q) = k + q := by unfold skipC; rw [if_neg (by omega)]; omega
    rw [e]
    by_cases hq : q = i
    · subst hq; rw [tab_own, tab_own]
    · unfold tabM wideT; rw [if_neg (by omega), if_neg (by omega), if_neg (by omega), if_neg (by omega)]
end

end Go.Proofs.Ytddjkmaigifomaa
