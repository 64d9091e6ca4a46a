/-
  match: the cost of an assignment.
-/
import Derived.Test.YtnpdkpbecmpdbaaMa
set_option linter.unusedVariables false
set_option linter.unusedSimpArgs false
namespace Go.Proofs.Ytnpdkpbecmpdbaa
open Go.RowKit

/-- The first error of the first n. -/
def firstE (f : Nat → Int) : Nat → Int
  | 0 => 0
  | n + 1 => if firstE f n = 0 then f n else firstE f n
theorem firstE_all {f : Nat → Int} {n : Nat} (h : ∀ i, i < n → f i = 0) : firstE f n = 0 := by
  induction n with
  | zero => rfl
  | succ n ih => show (if _ then _ else _) = _; rw [if_pos (ih fun i hi => h i (by omega))]; exact h n (by omega)
theorem firstE_at {f : Nat → Int} {n q : Nat} {e : Int} (hq : q < n) (h : ∀ i, i < q → f i = 0) (he : f q = e) (h0 : e ≠ 0) : firstE f n = e := by
  induction n with
  | zero => omega
  | succ n ih =>
    show (if _ then _ else _) = _
    by_cases hqn : q = n
    · subst hqn; rw [if_pos (firstE_all h), he]
    · have := ih (by omega)
      rw [if_neg (by rw [this]; exact h0), this]
theorem firstE_ok {f : Nat → Int} {n : Nat} (h : firstE f n = 0) : ∀ i, i < n → f i = 0 := by
  induction n with
  | zero => intro i hi; omega
  | succ n ih =>
    have h : (if firstE f n = 0 then f n else firstE f n) = 0 := h
    intro i hi
    by_cases h1 : firstE f n = 0
    · rw [if_pos h1] at h
      by_cases hin : i = n
      · rw [hin]; exact h
      · exact ih h1 i (by omega)
    · rw [if_neg h1] at h; exact absurd h h1

/-- The column x is taken by one of the first q rows. -/
def tk (cols : List Int) (q : Nat) (x : Int) : Bool := (List.range q).any fun i => ix cols i == x
theorem tk_zero (cols : List Int) (x : Int) : tk cols 0 x = false := rfl
theorem tk_succ (cols : List Int) (q : Nat) (x : Int) : tk cols (q + 1) x = (tk cols q x || (ix cols q == x)) := by simp [tk, List.range_succ]
theorem tk_iff {cols : List Int} {q : Nat} {x : Int} : tk cols q x = true ↔ ∃ i, i < q ∧ ix cols i = x := by simp [tk]

/-- The fault of the row i. -/
def errV (k : Nat) (C : List (List Int)) (cols : List Int) (i : Nat) : Int :=
  if ix cols i < -1 ∨ (k : Int) ≤ ix cols i then 1 else if ix cols i = -1 then 0 else if tk cols i (ix cols i) then 6 else if ix (rx C i) (ix cols i).toNat = -1 then 7 else 0
/-- What the row i costs. -/
def costV (C : List (List Int)) (sk cols : List Int) (i : Nat) : Int := if ix cols i = -1 then ix sk i else ix (rx C i) (ix cols i).toNat
def valM (C : List (List Int)) (sk cols : List Int) : Int × Int :=
  if chkM C sk ≠ 0 then (0, chkM C sk) else if cols.length ≠ C.length then (0, 3) else if firstE (errV (rx C 0).length C cols) C.length ≠ 0 then (0, firstE (errV (rx C 0).length C cols) C.length) else (sumR C.length (costV C sk cols), 0)

theorem valM_chk {C : List (List Int)} {sk cols : List Int} (h : chkM C sk ≠ 0) : valM C sk cols = (0, chkM C sk) := if_pos h
theorem valM_form {C : List (List Int)} {sk cols : List Int} (h : chkM C sk = 0) (h2 : cols.length ≠ C.length) : valM C sk cols = (0, 3) := by unfold valM; rw [if_neg (by omega), if_pos h2]
theorem valM_err {C : List (List Int)} {sk cols : List Int} (h : chkM C sk = 0) (h2 : cols.length = C.length) {q : Nat} (hq : q < C.length) (hp : ∀ i, i < q → errV (rx C 0).length C cols i = 0) {e : Int} (he : errV (rx C 0).length C cols q = e) (h0 : e ≠ 0) : valM C sk cols = (0, e) := by
  have := firstE_at hq hp he h0
  unfold valM
  rw [if_neg (by omega), if_neg (by omega), if_pos (by rw [this]; exact h0), this]
theorem valM_ok {C : List (List Int)} {sk cols : List Int} (h : chkM C sk = 0) (h2 : cols.length = C.length) (hp : ∀ i, i < C.length → errV (rx C 0).length C cols i = 0) : valM C sk cols = (sumR C.length (costV C sk cols), 0) := by
  unfold valM
  rw [if_neg (by omega), if_neg (by omega), if_neg (by rw [firstE_all hp]; decide)]

theorem errV_range {k : Nat} {C : List (List Int)} {cols : List Int} {i : Nat} (h : ix cols i < -1 ∨ (k : Int) ≤ ix cols i) : errV k C cols i = 1 := if_pos h
theorem errV_none {k : Nat} {C : List (List Int)} {cols : List Int} {i : Nat} (h : ix cols i = -1) : errV k C cols i = 0 := by unfold errV; rw [if_neg (by omega), if_pos h]
theorem errV_twice {k x : Nat} {C : List (List Int)} {cols : List Int} {i : Nat} (h : ix cols i = x) (hx : x < k) (ht : tk cols i x = true) : errV k C cols i = 6 := by unfold errV; rw [if_neg (by omega), if_neg (by omega), h, if_pos ht]
theorem errV_no {k x : Nat} {C : List (List Int)} {cols : List Int} {i : Nat} (h : ix cols i = x) (hx : x < k) (ht : tk cols i x = false) (hc : ix (rx C i) x = -1) : errV k C cols i = 7 := by
  unfold errV; rw [if_neg (by omega), if_neg (by omega), h, if_neg (by rw [ht]; decide), if_pos (by rw [Int.toNat_natCast]; exact hc)]
theorem errV_good {k x : Nat} {C : List (List Int)} {cols : List Int} {i : Nat} (h : ix cols i = x) (hx : x < k) (ht : tk cols i x = false) (hc : ix (rx C i) x ≠ -1) : errV k C cols i = 0 := by
  unfold errV; rw [if_neg (by omega), if_neg (by omega), h, if_neg (by rw [ht]; decide), if_neg (by rw [Int.toNat_natCast]; exact hc)]
theorem costV_none {C : List (List Int)} {sk cols : List Int} {i : Nat} (h : ix cols i = -1) : costV C sk cols i = ix sk i := if_pos h
theorem costV_at {C : List (List Int)} {sk cols : List Int} {i x : Nat} (h : ix cols i = x) : costV C sk cols i = ix (rx C i) x := by unfold costV; rw [if_neg (by omega), h, Int.toNat_natCast]

/-- The cost is small. -/
theorem sumV_bound {C : List (List Int)} {sk cols : List Int} {n k : Nat} (hp : ProbOk C sk n k) : ∀ q, q ≤ n → (∀ i, i < q → errV k C cols i = 0) → 0 ≤ sumR q (costV C sk cols) ∧ sumR q (costV C sk cols) ≤ 1000000000 * (q : Int)
  | 0, _, _ => ⟨Int.le_refl _, by simp [sumR]⟩
  | q + 1, hq, he => by
    obtain ⟨h1, h2⟩ := sumV_bound hp q (by omega) (fun i hi => he i (by omega))
    have h3 : 0 ≤ costV C sk cols q ∧ costV C sk cols q ≤ 1000000000 := by
      by_cases hn : ix cols q = -1
      · rw [costV_none hn]; exact hp.skip q (by omega)
      · have h4 := he q (by omega)
        unfold errV at h4
        by_cases g1 : ix cols q < -1 ∨ (k : Int) ≤ ix cols q
        · rw [if_pos g1] at h4; cases h4
        rw [if_neg g1, if_neg hn] at h4
        split at h4
        · cases h4
        split at h4
        · cases h4
        next g3 =>
          unfold costV
          rw [if_neg hn]
          have := hp.cost q (by omega) (ix cols q).toNat (by omega)
          omega
    unfold sumR
    omega

end Go.Proofs.Ytnpdkpbecmpdbaa
