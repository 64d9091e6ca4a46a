/-
  jet: pulses, plainly; pulses in memory.
-/
import Derived.Test.YtnpdkpbecmpdbaaOwn
import Derived.Test.YtnpdkpbecmpdbaaRows
import Derived.Laws.OwnMore
set_option linter.unusedVariables false
set_option linter.unusedSimpArgs false
namespace Go.Proofs.Ytnpdkpbecmpdbaa
open Go.RowKit

/-- The pulses F j .. T j that are planned for the first k detections X. -/
structure PlanInv (D H R : Int) (X : Nat → Int) (k n : Nat) (F T : Nat → Int) : Prop where
  le : n ≤ k
  some : 0 < k → 0 < n
  win : ∀ j, j < n → 0 ≤ F j ∧ F j < T j ∧ T j ≤ 1049676
  sep : ∀ j, j + 1 < n → T j ≤ F (j + 1) ∧ R ≤ F (j + 1) - T j
  last : ∀ m, n = m + 1 → ∀ i, k = i + 1 → T m = X i + D + H ∧ F m ≤ X i + D
  cover : ∀ i, i < k → ∃ j, j < n ∧ F j ≤ X i + D ∧ X i + D + H ≤ T j
  frm : ∀ j, j < n → ∃ i, i < k ∧ F j = X i + D
theorem PlanInv.zero (D H R : Int) (X F T : Nat → Int) : PlanInv D H R X 0 0 F T :=
  ⟨Nat.le_refl _, fun h => absurd h (by omega), fun j h => absurd h (by omega), fun j h => absurd h (by omega), fun m h => absurd h (by omega), fun i h => absurd h (by omega), fun j h => absurd h (by omega)⟩
section
variable {D H R : Int} {X : Nat → Int} {k n m : Nat} {F T : Nat → Int}
theorem PlanInv.add (h : PlanInv D H R X k n F T) (d0 : 0 ≤ D) (d1 : D ≤ 1000) (h1 : 1 ≤ H) (h2 : H ≤ 100) (x0 : 0 ≤ X k) (x1 : X k ≤ 1048576)
    (hc : ∀ m, n = m + 1 → T m ≤ X k + D ∧ R ≤ X k + D - T m) : PlanInv D H R X (k + 1) (n + 1) (fun j => if j = n then X k + D else F j) (fun j => if j = n then X k + D + H else T j) := by
  refine ⟨by have := h.le; omega, fun _ => by omega, fun j hj => ?_, fun j hj => ?_, fun m hm i hi => ?_, fun i hi => ?_, fun j hj => ?_⟩
  · show 0 ≤ (if j = n then _ else _) ∧ (if j = n then _ else _) < (if j = n then _ else _) ∧ (if j = n then _ else _) ≤ _
    by_cases hjn : j = n
    · rw [if_pos hjn, if_pos hjn]; omega
    · rw [if_neg hjn, if_neg hjn]; exact h.win j (by omega)
  · show (if j = n then _ else _) ≤ (if j + 1 = n then _ else _) ∧ _ ≤ (if j + 1 = n then _ else _) - (if j = n then _ else _)
    rw [if_neg (by omega)]
    by_cases hjn : j + 1 = n
    · rw [if_pos hjn]; exact hc j hjn.symm
    · rw [if_neg hjn]; exact h.sep j (by omega)
  · obtain rfl : m = n := by omega
    obtain rfl : i = k := by omega
    show (if m = m then _ else _) = _ ∧ (if m = m then _ else _) ≤ _
    rw [if_pos rfl, if_pos rfl]; exact ⟨rfl, Int.le_refl _⟩
  · by_cases hik : i = k
    · subst hik
      refine ⟨n, by omega, ?_⟩
      show (if n = n then _ else _) ≤ _ ∧ _ ≤ (if n = n then _ else _)
      rw [if_pos rfl, if_pos rfl]; exact ⟨Int.le_refl _, Int.le_refl _⟩
    · obtain ⟨j, hj, e1, e2⟩ := h.cover i (by omega)
      refine ⟨j, by omega, ?_⟩
      show (if j = n then _ else _) ≤ _ ∧ _ ≤ (if j = n then _ else _)
      rw [if_neg (by omega), if_neg (by omega)]; exact ⟨e1, e2⟩
  · by_cases hjn : j = n
    · exact ⟨k, by omega, if_pos hjn⟩
    · obtain ⟨i, hi, e⟩ := h.frm j (by omega)
      exact ⟨i, by omega, (if_neg hjn).trans e⟩
theorem PlanInv.ext (h : PlanInv D H R X k (m + 1) F T) (d0 : 0 ≤ D) (d1 : D ≤ 1000) (h1 : 1 ≤ H) (h2 : H ≤ 100) (x0 : 0 ≤ X k) (x1 : X k ≤ 1048576) (hs : ∀ i, k = i + 1 → X i ≤ X k) :
    PlanInv D H R X (k + 1) (m + 1) F (fun j => if j = m then X k + D + H else T j) := by
  obtain ⟨i0, hi0⟩ : ∃ i, k = i + 1 := ⟨k - 1, by have := h.le; omega⟩
  obtain ⟨l1, l2⟩ := h.last m rfl i0 hi0
  have hs := hs i0 hi0
  have hT : ∀ j, T j ≤ (if j = m then X k + D + H else T j) := fun j => by
    by_cases hjm : j = m
    · rw [if_pos hjm, hjm]; omega
    · rw [if_neg hjm]; exact Int.le_refl _
  refine ⟨by have := h.le; omega, fun _ => by omega, fun j hj => ?_, fun j hj => ?_, fun m' hm i hi => ?_, fun i hi => ?_, fun j hj => ?_⟩
  · show 0 ≤ F j ∧ F j < (if j = m then _ else _) ∧ (if j = m then _ else _) ≤ _
    have := h.win j hj
    by_cases hjm : j = m
    · rw [if_pos hjm]; subst hjm; omega
    · rw [if_neg hjm]; exact this
  · show (if j = m then _ else _) ≤ F (j + 1) ∧ _ ≤ F (j + 1) - (if j = m then _ else _)
    rw [if_neg (by omega)]
    exact h.sep j hj
  · obtain rfl : m' = m := by omega
    obtain rfl : i = k := by omega
    show (if m' = m' then _ else _) = _ ∧ _
    rw [if_pos rfl]; exact ⟨rfl, by omega⟩
  · by_cases hik : i = k
    · subst hik
      refine ⟨m, by omega, by omega, ?_⟩
      show _ ≤ (if m = m then _ else _)
      rw [if_pos rfl]; exact Int.le_refl _
    · obtain ⟨j, hj, e1, e2⟩ := h.cover i (by omega)
      exact ⟨j, hj, e1, Int.le_trans e2 (hT j)⟩
  · obtain ⟨i, hi, e⟩ := h.frm j hj
    exact ⟨i, by omega, e⟩
end

/-- The cells of pulses. -/
def winV (n : Nat) (F T : Nat → Int) : List Value := (List.range n).flatMap fun j => [.int .i64 (F j), .int .i64 (T j)]
theorem winV_succ (n : Nat) (F T : Nat → Int) : winV (n + 1) F T = winV n F T ++ [.int .i64 (F n), .int .i64 (T n)] := by simp [winV, List.range_succ]
theorem winV_length (n : Nat) (F T : Nat → Int) : (winV n F T).length = n * 2 := by
  induction n with
  | zero => rfl
  | succ n ih => rw [winV_succ, List.length_append, ih]; simp; omega
theorem winV_get {n j : Nat} {F T : Nat → Int} (h : j < n) : (winV n F T)[j * 2]? = some (.int .i64 (F j)) ∧ (winV n F T)[j * 2 + 1]? = some (.int .i64 (T j)) := by
  induction n with
  | zero => exact absurd h (by omega)
  | succ n ih =>
    rw [winV_succ]
    by_cases hj : j < n
    · rw [List.getElem?_append_left (by rw [winV_length]; omega), List.getElem?_append_left (by rw [winV_length]; omega)]
      exact ih hj
    · obtain rfl : j = n := by omega
      rw [List.getElem?_append_right (by rw [winV_length]; omega), List.getElem?_append_right (by rw [winV_length]; omega), winV_length, Nat.sub_self, Nat.add_sub_cancel_left]
      exact ⟨rfl, rfl⟩
theorem winV_congr {n : Nat} {F T F' T' : Nat → Int} (h : ∀ j, j < n → F j = F' j ∧ T j = T' j) : winV n F T = winV n F' T' := by
  induction n with
  | zero => rfl
  | succ n ih => rw [winV_succ, winV_succ, ih fun j hj => h j (by omega), (h n (by omega)).1, (h n (by omega)).2]
theorem winV_add (n : Nat) (F T : Nat → Int) (f t : Int) : winV n F T ++ [.int .i64 f, .int .i64 t] = winV (n + 1) (fun j => if j = n then f else F j) (fun j => if j = n then t else T j) := by
  rw [winV_succ, winV_congr (F' := fun j => if j = n then f else F j) (T' := fun j => if j = n then t else T j) (fun j hj => ⟨(if_neg (by omega)).symm, (if_neg (by omega)).symm⟩)]
  simp
theorem winV_set (m : Nat) (F T : Nat → Int) (t : Int) : (winV (m + 1) F T).set (m * 2 + 1) (.int .i64 t) = winV (m + 1) F (fun j => if j = m then t else T j) := by
  rw [winV_succ, winV_succ, List.set_append_right _ _ (by rw [winV_length]; omega), winV_length, Nat.add_sub_cancel_left]
  rw [winV_congr (F' := F) (T' := fun j => if j = m then t else T j) (fun j hj => ⟨rfl, (if_neg (by omega)).symm⟩)]
  simp

/-- Pulses at an address. -/
def Wins (w : World) (a : Option Addr) (n : Nat) (F T : Nat → Int) : Prop :=
  n ≠ 0 → ∃ b off, a = some ⟨b, off, none⟩ ∧ ∀ j, j < n → w.cell? ⟨b, off + j * 2, none⟩ = some (.int .i64 (F j)) ∧ w.cell? ⟨b, off + j * 2 + 1, none⟩ = some (.int .i64 (T j))
theorem Wins.frame {w w' : World} {a : Option Addr} {n : Nat} {F T : Nat → Int} (h : Wins w a n F T) (m : Mod NoBlock w w') : Wins w' a n F T := fun hn => by
  obtain ⟨b, off, e, hc⟩ := h hn
  exact ⟨b, off, e, fun j hj => ⟨m.cell (hc j hj).1 id, m.cell (hc j hj).2 id⟩⟩

end Go.Proofs.Ytnpdkpbecmpdbaa
