/-
  match: what Solve returns, plainly.
-/
import Derived.Test.YtnpdkpbecmpdbaaMf
import Derived.Test.YtnpdkpbecmpdbaaMg
set_option linter.unusedVariables false
set_option linter.unusedSimpArgs false
namespace Go.Proofs.Ytnpdkpbecmpdbaa
open Go.RowKit

theorem sumR_split (k n : Nat) (f : Nat → Int) : sumR (k + n) f = sumR k f + sumR n fun i => f (k + i) := by
  induction n with
  | zero => simp [sumR]
  | succ n ih =>
    show sumR (k + n) f + f (k + n) = sumR k f + (sumR n (fun i => f (k + i)) + f (k + n))
    rw [ih]; omega
theorem sumR_row (n : Nat) (F : Nat → Int) : sumR n (ix (rowI n F)) = sumR n F := sumR_congr fun i hi => rowI_ix hi

section
variable {C : List (List Int)} {sk : List Int} {n k : Nat} {t : Int} {wf : Nat → Nat}

theorem tab_common {i j : Nat} (hj : j < k) : tabM C sk k i j = if ix (rx C i) j = -1 then far else ix (rx C i) j := by unfold tabM wideT; rw [if_pos hj]
theorem tab_own (i : Nat) : tabM C sk k i (k + i) = ix sk i := by unfold tabM wideT; rw [if_neg (by omega), if_pos rfl]

theorem First.near (h : First (tabM C sk k) n k t wf) (hp : ProbOk C sk n k) {r : Nat} (hr : r < n) : tabM C sk k r (wf r) < far := (wide_ok hp).near h.least h.asg h.cost hr
/-- A row has a common column, or its own one. -/
theorem First.cases (h : First (tabM C sk k) n k t wf) (hp : ProbOk C sk n k) {r : Nat} (hr : r < n) : (wf r < k ∧ ix (rx C r) (wf r) ≠ -1) ∨ wf r = k + r := by
  have h1 := h.near hp hr
  have h2 := h.asg.lt r hr
  by_cases hk : wf r < k
  · refine .inl ⟨hk, fun e => ?_⟩
    rw [tab_common hk, if_pos e] at h1
    omega
  · by_cases e : wf r - k = r
    · right; omega
    · have h3 := (wide_ok hp).other r hr (wf r - k) (by omega) e
      rw [show k + (wf r - k) = wf r by omega] at h3
      have h3 : tabM C sk k r (wf r) = far := h3
      omega

theorem First.val (h : First (tabM C sk k) n k t wf) (hp : ProbOk C sk n k) (hc : chkM C sk = 0) (hn : C.length = n) (hk : (rx C 0).length = k) : valM C sk (rowI n (colZ k wf)) = (t, 0) := by
  have he : ∀ i, i < n → errV k C (rowI n (colZ k wf)) i = 0 ∧ costV C sk (rowI n (colZ k wf)) i = tabM C sk k i (wf i) := by
    intro i hi
    have hix : ix (rowI n (colZ k wf)) i = colZ k wf i := rowI_ix hi
    rcases h.cases hp hi with ⟨h1, h2⟩ | h1
    · have e : ix (rowI n (colZ k wf)) i = (wf i : Int) := by rw [hix]; unfold colZ; rw [if_pos h1]
      have ht : tk (rowI n (colZ k wf)) i (wf i : Int) = false := by
        cases hb : tk (rowI n (colZ k wf)) i (wf i : Int)
        · rfl
        · obtain ⟨i', g1, g2⟩ := tk_iff.1 hb
          rw [rowI_ix (by omega)] at g2
          unfold colZ at g2
          split at g2
          · have := h.asg.inj i' i (by omega) hi (by omega); omega
          · omega
      exact ⟨errV_good e h1 ht h2, by rw [costV_at e, tab_common h1, if_neg h2]⟩
    · have e : ix (rowI n (colZ k wf)) i = -1 := by rw [hix]; unfold colZ; rw [if_neg (by omega)]
      exact ⟨errV_none e, by rw [costV_none e, h1, tab_own]⟩
  subst hn
  rw [valM_ok hc (rowI_length _ _) (by rw [hk]; exact fun i hi => (he i hi).1)]
  have hs : sumR C.length (costV C sk (rowI C.length (colZ k wf))) = t := by
    rw [← h.cost]
    exact sumR_congr fun i hi => (he i hi).2
  rw [hs]

theorem First.proves (h : First (tabM C sk k) n k t wf) (hp : ProbOk C sk n k) (hc : chkM C sk = 0) (hn : C.length = n) (hk : (rx C 0).length = k) {u v : Nat → Int} (ho : PotOk (tabM C sk k) n (k + n) u v t) :
    ProOk C sk (rowI n (colZ k wf)) t (rowI n fun i => u i + v (k + i)) (rowI k v) := by
  obtain ⟨t1, t2⟩ := ho.tight h.asg h.cost
  have hown : ∀ i, i < n → wf i ≠ k + i → v (k + i) = 0 := fun i hi hne => t2 (k + i) (by omega) fun r hr e => by
    rcases h.cases hp hr with ⟨g1, _⟩ | g1
    · omega
    · have : r = i := by omega
      subst this; exact hne e
  have hU : ∀ i, i < n → 0 ≤ u i + v (k + i) ∧ u i + v (k + i) ≤ ix sk i := by
    intro i hi
    have h1 := ho.feas i hi (k + i) (by omega)
    rw [tab_own] at h1
    refine ⟨?_, h1⟩
    have h2 := t1 i hi
    rcases h.cases hp hi with ⟨g1, g2⟩ | g1
    · have h3 := hown i hi (by omega)
      have h4 := ho.v0 (wf i) (by omega)
      have h5 := ((wide_ok hp).le i hi (wf i) (by omega)).1
      have h5 : 0 ≤ tabM C sk k i (wf i) := h5
      omega
    · rw [g1, tab_own] at h2
      have := hp.skip i hi
      omega
  have hV : ∀ j, j < k → -1000000000 ≤ v j ∧ v j ≤ 0 := by
    intro j hj
    refine ⟨?_, ho.v0 j (by omega)⟩
    by_cases hx : ∃ r, r < n ∧ wf r = j
    · obtain ⟨r, hr, e⟩ := hx
      have h2 := t1 r hr
      rw [e] at h2
      have h3 := hown r hr (by omega)
      have h4 := hU r hr
      have h5 := hp.skip r hr
      have h6 := ((wide_ok hp).le r hr j (by omega)).1
      have h6 : 0 ≤ tabM C sk k r j := h6
      omega
    · rw [t2 j (by omega) fun r hr e => hx ⟨r, hr, e⟩]; omega
  have hv := h.val hp hc hn hk
  subst hn
  subst hk
  refine ⟨by rw [hv], by rw [hv], rowI_length _ _, rowI_length _ _, fun i hi => ?_, fun j hj => ?_, fun j hj => ?_, fun i hi => ?_, fun i hi j hj hne => ?_, ?_⟩
  · rw [rowI_length] at hi
    rw [rowI_ix hi]
    have h1 := hU i hi
    have h2 := hp.skip i hi
    omega
  · rw [rowI_length] at hj
    rw [rowI_ix hj]
    have := hV j hj
    omega
  · rw [rowI_ix hj]; exact (hV j hj).2
  · rw [rowI_ix hi]; exact (hU i hi).2
  · rw [rowI_ix hi, rowI_ix hj]
    have h1 := ho.feas i hi j (by omega)
    rw [tab_common hj, if_neg hne] at h1
    have h2 := ho.v0 ((rx C 0).length + i) (by omega)
    omega
  · rw [sumR_row, sumR_row, sumR_add]
    have := ho.sum
    rw [sumR_split] at this
    omega

/-- The columns of any assignment. -/
def asgOf (k : Nat) (cols : List Int) (r : Nat) : Nat := if ix cols r = -1 then k + r else (ix cols r).toNat
theorem asgOf_ok {cols : List Int} (hp : ProbOk C sk n k) (he : ∀ i, i < n → errV k C cols i = 0) : Asg n (k + n) (asgOf k cols) ∧ cost (tabM C sk k) n (asgOf k cols) = sumR n (costV C sk cols) ∧ ∀ i, i < n → ix cols i ≠ -1 → 0 ≤ ix cols i ∧ ix cols i < k := by
  have hr : ∀ i, i < n → ix cols i ≠ -1 → 0 ≤ ix cols i ∧ ix cols i < k ∧ tk cols i (ix cols i) = false ∧ ix (rx C i) (ix cols i).toNat ≠ -1 := by
    intro i hi hne
    have h1 := he i hi
    unfold errV at h1
    by_cases g1 : ix cols i < -1 ∨ (k : Int) ≤ ix cols i
    · rw [if_pos g1] at h1; cases h1
    rw [if_neg g1, if_neg hne] at h1
    cases g2 : tk cols i (ix cols i)
    · rw [g2] at h1
      by_cases g3 : ix (rx C i) (ix cols i).toNat = -1
      · rw [if_neg (by decide), if_pos g3] at h1; cases h1
      · exact ⟨by omega, by omega, rfl, g3⟩
    · rw [g2, if_pos rfl] at h1; cases h1
  refine ⟨⟨fun r h => ?_, fun r r' h h' e => ?_⟩, ?_, fun i hi hne => ⟨(hr i hi hne).1, (hr i hi hne).2.1⟩⟩
  · unfold asgOf
    split
    · omega
    · next hne => have := hr r h hne; omega
  · by_cases e1 : ix cols r = -1
    · by_cases e2 : ix cols r' = -1
      · unfold asgOf at e; rw [if_pos e1, if_pos e2] at e; omega
      · have := hr r' h' e2; unfold asgOf at e; rw [if_pos e1, if_neg e2] at e; omega
    · by_cases e2 : ix cols r' = -1
      · have := hr r h e1; unfold asgOf at e; rw [if_neg e1, if_pos e2] at e; omega
      · have g1 := hr r h e1
        have g2 := hr r' h' e2
        unfold asgOf at e
        rw [if_neg e1, if_neg e2] at e
        have e3 : ix cols r = ix cols r' := by omega
        by_cases hlt : r < r'
        · have := tk_iff.2 ⟨r, hlt, e3⟩
          rw [g2.2.2.1] at this; cases this
        · by_cases hgt : r' < r
          · have := tk_iff.2 ⟨r', hgt, e3.symm⟩
            rw [g1.2.2.1] at this; cases this
          · omega
  · refine sumR_congr fun i hi => ?_
    show tabM C sk k i (asgOf k cols i) = costV C sk cols i
    by_cases e1 : ix cols i = -1
    · unfold asgOf costV; rw [if_pos e1, if_pos e1, tab_own]
    · have g := hr i hi e1
      unfold asgOf costV
      rw [if_neg e1, if_neg e1, tab_common (by omega), if_neg g.2.2.2]

/-- No assignment is better, nor before. -/
theorem First.best (h : First (tabM C sk k) n k t wf) (hp : ProbOk C sk n k) {cols : List Int} (he : ∀ i, i < n → errV k C cols i = 0) :
    t ≤ sumR n (costV C sk cols) ∧ (sumR n (costV C sk cols) = t → ∀ i, i < n → (∀ i', i' < i → ix cols i' = colZ k wf i') → ix cols i ≠ colZ k wf i → ix cols i = -1 ∨ (0 ≤ colZ k wf i ∧ colZ k wf i < ix cols i)) := by
  obtain ⟨h1, h2, h3⟩ := asgOf_ok hp he
  have h4 := h.least _ h1
  refine ⟨by omega, fun e i hi hsame hne => ?_⟩
  have h5 : ∀ r, r < i → asgOf k cols r = wf r := fun r hr => by
    have g := hsame r hr
    rcases h.cases hp (r := r) (by omega) with ⟨g1, _⟩ | g1
    · unfold colZ at g; rw [if_pos g1] at g
      unfold asgOf; rw [if_neg (by omega), g]; rfl
    · unfold colZ at g; rw [if_neg (by omega)] at g
      unfold asgOf; rw [if_pos g, g1]
  have h6 := h.first i hi _ h1 (by omega) h5
  by_cases e1 : ix cols i = -1
  · exact .inl e1
  · right
    have h7 := h3 i hi e1
    unfold asgOf at h6
    rw [if_neg e1] at h6
    have h8 : wf i < k := by omega
    unfold colZ at hne ⊢
    rw [if_pos h8] at hne ⊢
    omega
end

end Go.Proofs.Ytnpdkpbecmpdbaa
