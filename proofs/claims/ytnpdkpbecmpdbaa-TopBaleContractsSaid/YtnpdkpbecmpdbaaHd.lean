/-
  match: sums, assignments, the least cost, and that potentials prove it.
-/
import Derived.Test.YtnpdkpbecmpdbaaHc
set_option linter.unusedVariables false
set_option linter.unusedSimpArgs false
namespace Go.Proofs.Ytnpdkpbecmpdbaa
open Go.RowKit

def sumR : Nat → (Nat → Int) → Int
  | 0, _ => 0
  | k + 1, f => sumR k f + f k
theorem sumR_congr {n : Nat} {f g : Nat → Int} (h : ∀ i, i < n → f i = g i) : sumR n f = sumR n g := by
  induction n with
  | zero => rfl
  | succ n ih => unfold sumR; rw [ih fun i hi => h i (by omega), h n (by omega)]
theorem sumR_le {n : Nat} {f g : Nat → Int} (h : ∀ i, i < n → f i ≤ g i) : sumR n f ≤ sumR n g := by
  induction n with
  | zero => exact Int.le_refl _
  | succ n ih => unfold sumR; have := ih fun i hi => h i (by omega); have := h n (by omega); omega
theorem sumR_eq {n : Nat} {f g : Nat → Int} (h : ∀ i, i < n → f i ≤ g i) (e : sumR n f = sumR n g) : ∀ i, i < n → f i = g i := by
  induction n with
  | zero => intro i hi; omega
  | succ n ih =>
    unfold sumR at e
    have h1 := sumR_le fun i (hi : i < n) => h i (by omega)
    have h2 := h n (by omega)
    intro i hi
    by_cases hin : i = n
    · subst hin; omega
    · exact ih (fun i hi => h i (by omega)) (by omega) i (by omega)
theorem sumR_add (n : Nat) (f g : Nat → Int) : sumR n (fun i => f i + g i) = sumR n f + sumR n g := by
  induction n with
  | zero => rfl
  | succ n ih =>
    show sumR n (fun i => f i + g i) + (f n + g n) = (sumR n f + f n) + (sumR n g + g n)
    rw [ih]; omega
theorem sumR_zero {n : Nat} {f : Nat → Int} (h : ∀ i, i < n → f i = 0) : sumR n f = 0 := by
  induction n with
  | zero => rfl
  | succ n ih => unfold sumR; rw [ih fun i hi => h i (by omega), h n (by omega)]; rfl
theorem sumR_single {n k : Nat} {f : Nat → Int} (hk : k < n) (h : ∀ i, i < n → i ≠ k → f i = 0) : sumR n f = f k := by
  induction n with
  | zero => omega
  | succ n ih =>
    unfold sumR
    by_cases hkn : k = n
    · subst hkn
      rw [sumR_zero fun i hi => h i (by omega) (by omega)]; omega
    · rw [ih (by omega) fun i hi hne => h i (by omega) hne, h n (by omega) (by omega)]; omega
theorem sumR_swap (n m : Nat) (f : Nat → Nat → Int) : sumR n (fun i => sumR m fun j => f i j) = sumR m fun j => sumR n fun i => f i j := by
  induction n with
  | zero => exact (sumR_zero fun _ _ => rfl).symm
  | succ n ih =>
    show sumR n (fun i => sumR m fun j => f i j) + sumR m (fun j => f n j) = sumR m fun j => sumR n (fun i => f i j) + f n j
    rw [ih, ← sumR_add]

/-- Rows 0 .. n-1 have different columns under K. -/
structure Asg (n K : Nat) (a : Nat → Nat) : Prop where
  lt : ∀ r, r < n → a r < K
  inj : ∀ r r', r < n → r' < n → a r = a r' → r = r'
def cost (T : Nat → Nat → Int) (n : Nat) (a : Nat → Nat) : Int := sumR n fun r => T r (a r)
def LeastIs (T : Nat → Nat → Int) (n K : Nat) (t : Int) : Prop := (∃ a, Asg n K a ∧ cost T n a = t) ∧ ∀ a, Asg n K a → t ≤ cost T n a
theorem LeastIs.unique {T : Nat → Nat → Int} {n K : Nat} {t t' : Int} (h : LeastIs T n K t) (h' : LeastIs T n K t') : t = t' := by
  obtain ⟨⟨a, h1, h2⟩, h3⟩ := h
  obtain ⟨⟨a', h1', h2'⟩, h3'⟩ := h'
  have := h3 a' h1'
  have := h3' a h1
  omega
open Classical in
/-- A sum over an assignment, by columns. -/
theorem sum_hit {n K : Nat} {a : Nat → Nat} (h : Asg n K a) (v : Nat → Int) : sumR n (fun r => v (a r)) = sumR K fun j => if ∃ r, r < n ∧ a r = j then v j else 0 := by
  have h1 : sumR n (fun r => v (a r)) = sumR n fun r => sumR K fun j => if a r = j then v j else 0 := sumR_congr fun r hr => by
    rw [sumR_single (k := a r) (h.lt r hr) (fun j _ hj => if_neg fun e => hj e.symm)]; simp
  rw [h1, sumR_swap]
  refine sumR_congr fun j hj => ?_
  by_cases hh : ∃ r, r < n ∧ a r = j
  · rw [if_pos hh]
    obtain ⟨r, hr, e⟩ := hh
    rw [sumR_single (k := r) hr (fun r' hr' hne => if_neg fun e' => hne (h.inj r' r hr' hr (e'.trans e.symm)))]
    exact if_pos e
  · rw [if_neg hh]
    exact sumR_zero fun r hr => if_neg fun e => hh ⟨r, hr, e⟩

/-- Potentials of n rows and K columns whose sum is t. -/
structure PotOk (T : Nat → Nat → Int) (n K : Nat) (u v : Nat → Int) (t : Int) : Prop where
  feas : ∀ r, r < n → ∀ j, j < K → u r + v j ≤ T r j
  v0 : ∀ j, j < K → v j ≤ 0
  sum : sumR n u + sumR K v = t

theorem PotOk.lower {T : Nat → Nat → Int} {n K : Nat} {u v : Nat → Int} {t : Int} (h : PotOk T n K u v t) {a : Nat → Nat} (ha : Asg n K a) : t ≤ cost T n a := by
  have h1 : sumR n (fun r => u r + v (a r)) ≤ cost T n a := sumR_le fun r hr => h.feas r hr _ (ha.lt r hr)
  rw [sumR_add, sum_hit ha] at h1
  have h2 : sumR K v ≤ sumR K fun j => if ∃ r, r < n ∧ a r = j then v j else 0 := sumR_le fun j hj => by
    have := h.v0 j hj
    split <;> omega
  have := h.sum
  omega
/-- An assignment of the least cost has tight pairs alone; what it leaves out has potential 0. -/
theorem PotOk.tight {T : Nat → Nat → Int} {n K : Nat} {u v : Nat → Int} {t : Int} (h : PotOk T n K u v t) {a : Nat → Nat} (ha : Asg n K a) (he : cost T n a = t) :
    (∀ r, r < n → u r + v (a r) = T r (a r)) ∧ ∀ j, j < K → (∀ r, r < n → a r ≠ j) → v j = 0 := by
  have h1 : ∀ r, r < n → (fun r => u r + v (a r)) r ≤ (fun r => T r (a r)) r := fun r hr => h.feas r hr _ (ha.lt r hr)
  have h2 : ∀ j, j < K → v j ≤ (fun j => if ∃ r, r < n ∧ a r = j then v j else 0) j := fun j hj => by
    have := h.v0 j hj
    show v j ≤ if ∃ r, r < n ∧ a r = j then v j else 0
    split <;> omega
  have h3 := sumR_le h1
  have h4 := sumR_le h2
  have h5 : sumR n (fun r => u r + v (a r)) = sumR n u + sumR K fun j => if ∃ r, r < n ∧ a r = j then v j else 0 := by rw [sumR_add, sum_hit ha]
  have h6 := h.sum
  unfold cost at he
  refine ⟨fun r hr => sumR_eq h1 (by omega) r hr, fun j hj hn => ?_⟩
  have := sumR_eq h2 (by omega) j hj
  rw [this]
  exact if_neg fun ⟨r, hr, e⟩ => hn r hr e

/-- The columns of the rows, when all rows are done. -/
theorem HD.asg {c : Nat → Nat → Int} {n K : Nat} {row : Nat → Nat} {u v : Nat → Int} (h : HD c n K n row u v) : ∃ a, Asg n K a ∧ ∀ r, r < n → row (a r + 1) = r + 1 := by
  have : ∀ r, ∃ j, r < n → j < K ∧ row (j + 1) = r + 1 := fun r => by
    by_cases hr : r < n
    · obtain ⟨j, h1, h2, h3⟩ := h.cov (r + 1) (by omega) (by omega)
      exact ⟨j - 1, fun _ => ⟨by omega, by rw [Nat.sub_add_cancel h1]; exact h3⟩⟩
    · exact ⟨0, fun h => absurd h hr⟩
  obtain ⟨a, ha⟩ := Classical.axiomOfChoice this
  refine ⟨a, ⟨fun r hr => (ha r hr).1, fun r r' hr hr' e => ?_⟩, fun r hr => (ha r hr).2⟩
  have h1 := (ha r hr).2
  have h2 := (ha r' hr').2
  rw [e] at h1
  omega

/-- What the rows' columns cost, counted by columns. -/
def colCost (T : Nat → Nat → Int) (row : Nat → Nat) (j : Nat) : Int := if row (j + 1) = 0 then 0 else T (row (j + 1) - 1) j

theorem HD.least {T : Nat → Nat → Int} {n K : Nat} {row : Nat → Nat} {u v : Nat → Int} (h : HD (fun r j => T (r - 1) (j - 1)) n K n row u v) :
    ∃ t, LeastIs T n K t ∧ PotOk T n K (fun r => u (r + 1)) (fun j => v (j + 1)) t ∧ sumR K (colCost T row) = t := by
  obtain ⟨a, ha, har⟩ := h.asg
  have hinv : ∀ j, j < K → row (j + 1) ≠ 0 → row (j + 1) - 1 < n ∧ a (row (j + 1) - 1) = j := fun j hj h0 => by
    have h1 := h.le (j + 1) (by omega) (by omega)
    have h2 := har (row (j + 1) - 1) (by omega)
    have h3 := ha.lt (row (j + 1) - 1) (by omega)
    have := h.inj (j + 1) (a (row (j + 1) - 1) + 1) (by omega) (by omega) (by omega) (by omega) h0 (by omega)
    exact ⟨by omega, by omega⟩
  have hcost : cost T n a = sumR n (fun r => u (r + 1)) + sumR K fun j => v (j + 1) := by
    have h1 : cost T n a = sumR n fun r => u (r + 1) + v (a r + 1) := sumR_congr fun r hr => by
      have h2 := h.pot.tight (a r + 1) (by omega) (by have := ha.lt r hr; omega) (by rw [har r hr]; omega)
      rw [har r hr] at h2
      unfold redC at h2
      simp only [Nat.add_sub_cancel] at h2
      omega
    rw [h1, sumR_add, sum_hit ha (fun j => v (j + 1))]
    congr 1
    refine sumR_congr fun j hj => ?_
    by_cases hh : ∃ r, r < n ∧ a r = j
    · rw [if_pos hh]
    · rw [if_neg hh]
      by_cases h0 : row (j + 1) = 0
      · exact (h.pot.vfree (j + 1) (by omega) (by omega) h0).symm
      · exact absurd ⟨_, hinv j hj h0⟩ hh
  have hpot : PotOk T n K (fun r => u (r + 1)) (fun j => v (j + 1)) (cost T n a) := by
    refine ⟨fun r hr j hj => ?_, fun j hj => h.pot.v0 (j + 1) (by omega) (by omega), hcost.symm⟩
    have := h.pot.feas (r + 1) (by omega) (by omega) (j + 1) (by omega) (by omega)
    unfold redC at this
    simp only [Nat.add_sub_cancel] at this
    show u (r + 1) + v (j + 1) ≤ T r j
    omega
  refine ⟨cost T n a, ⟨⟨a, ha, rfl⟩, fun b hb => hpot.lower hb⟩, hpot, ?_⟩
  have h1 : cost T n a = sumR n fun r => sumR K fun j => if a r = j then T r j else 0 := sumR_congr fun r hr => by
    rw [sumR_single (k := a r) (ha.lt r hr) (fun j _ hj => if_neg fun e => hj e.symm)]; simp
  rw [h1, sumR_swap]
  refine sumR_congr fun j hj => ?_
  unfold colCost
  by_cases h0 : row (j + 1) = 0
  · rw [if_pos h0]
    refine (sumR_zero fun r hr => if_neg fun e => ?_).symm
    have := har r hr
    rw [e, h0] at this
    omega
  · rw [if_neg h0]
    obtain ⟨k1, k2⟩ := hinv j hj h0
    rw [sumR_single (k := row (j + 1) - 1) k1 (fun r hr hne => if_neg fun e => hne (by have := har r hr; rw [e] at this; omega)), if_pos k2]

end Go.Proofs.Ytnpdkpbecmpdbaa
