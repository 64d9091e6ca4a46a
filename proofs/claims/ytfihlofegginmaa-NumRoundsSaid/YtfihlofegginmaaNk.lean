/-
  Decimal digits, in plain Lean.
-/
import Derived.Test.YtfihlofegginmaaNp
import Derived.Laws.BytesArg
set_option linter.unusedVariables false
set_option linter.unusedSimpArgs false
namespace Go.Proofs.Ytfihlofegginmaa

/-- The last k decimal digits of n, as bytes. -/
def digs : Nat → Nat → List Int
  | 0, _ => []
  | k + 1, n => digs k (n / 10) ++ [48 + ((n % 10 : Nat) : Int)]

theorem digs_length : ∀ (k n : Nat), (digs k n).length = k
  | 0, _ => rfl
  | k + 1, n => by rw [digs, List.length_append, digs_length k]; rfl

theorem digs_cons : ∀ (k n : Nat), digs (k + 1) n = (48 + ((n / 10 ^ k % 10 : Nat) : Int)) :: digs k n
  | 0, n => by simp [digs]
  | k + 1, n => by
    rw [digs, digs_cons k, List.cons_append, digs, Nat.div_div_eq_div_mul, Nat.pow_succ, Nat.mul_comm 10]

theorem digs_byte : ∀ (k n : Nat), ∀ x ∈ digs k n, 48 ≤ x ∧ x ≤ 57
  | 0, _, x, h => by simp [digs] at h
  | k + 1, n, x, h => by
    rw [digs, List.mem_append] at h
    rcases h with h | h
    · exact digs_byte k _ x h
    · simp at h; omega

/-- The number of digits (none for 0). -/
def nd : Nat → Nat → Nat
  | 0, _ => 0
  | f + 1, n => if n = 0 then 0 else nd f (n / 10) + 1

theorem nd_upper : ∀ (f n : Nat), n < 10 ^ f → n < 10 ^ nd f n
  | 0, n, h => by simpa [nd] using h
  | f + 1, n, h => by
    rw [nd]
    split
    · next h0 => subst h0; simp
    · have := nd_upper f (n / 10) (by rw [Nat.pow_succ] at h; omega)
      rw [Nat.pow_succ]; omega

theorem nd_lower : ∀ (f n : Nat), nd f n = 0 ∨ 10 ^ (nd f n - 1) ≤ n
  | 0, n => .inl rfl
  | f + 1, n => by
    rw [nd]
    split
    · exact .inl rfl
    · next h0 =>
      refine .inr ?_
      rw [Nat.add_sub_cancel]
      rcases nd_lower f (n / 10) with h | h
      · rw [h]; simp; omega
      · have h1 : 1 ≤ nd f (n / 10) ∨ nd f (n / 10) = 0 := by omega
        rcases h1 with h1 | h1
        · obtain ⟨m, hm⟩ : ∃ m, nd f (n / 10) = m + 1 := ⟨nd f (n / 10) - 1, by omega⟩
          rw [hm, Nat.add_sub_cancel] at h
          rw [hm, Nat.pow_succ]; omega
        · rw [h1]; simp; omega

/-- How many digits are written: at least so many. -/
def lenD (n least : Nat) : Nat := max least (nd 20 n)

theorem lenD_unique {n least j : Nat} (hn : n < 10 ^ 20) (h1 : n < 10 ^ j) (h2 : least ≤ j) (h3 : j ≤ least ∨ 10 ^ (j - 1) ≤ n) : j = lenD n least := by
  have hu := nd_upper 20 n hn
  have hl := nd_lower 20 n
  unfold lenD
  have hle : nd 20 n ≤ j := by
    rcases hl with hl | hl
    · omega
    · by_cases hlt : j < nd 20 n
      · have := Nat.pow_le_pow_right (show 0 < 10 by omega) (show j ≤ nd 20 n - 1 by omega)
        omega
      · omega
  rcases h3 with h3 | h3
  · omega
  · by_cases hlt : nd 20 n < j
    · have := Nat.pow_le_pow_right (show 0 < 10 by omega) (show nd 20 n ≤ j - 1 by omega)
      omega
    · omega

theorem lenD_spec {n least : Nat} (hn : n < 10 ^ 20) : n < 10 ^ lenD n least ∧ (lenD n least ≤ least ∨ 10 ^ (lenD n least - 1) ≤ n) := by
  have hu := nd_upper 20 n hn
  have hl := nd_lower 20 n
  unfold lenD
  by_cases h : nd 20 n ≤ least
  · rw [Nat.max_eq_left h]
    exact ⟨Nat.lt_of_lt_of_le hu (Nat.pow_le_pow_right (by omega) h), .inl (by omega)⟩
  · rw [Nat.max_eq_right (by omega)]
    refine ⟨hu, .inr ?_⟩
    rcases hl with h0 | h0
    · omega
    · exact h0

/-- The digits of n, at least so many. -/
def digitsN (n least : Nat) : List Int := digs (lenD n least) n

theorem digits_pad {n j : Nat} (h : n < 10 ^ j) : digs (j + 1) n = 48 :: digs j n := by
  rw [digs_cons, Nat.div_eq_of_lt h]; rfl

theorem lenD_bounds {n least : Nat} (hn : n < 10 ^ 16) (hl : least ≤ 7) : lenD n least ≤ 16 ∧ least ≤ lenD n least := by
  have hl2 := nd_lower 20 n
  unfold lenD
  refine ⟨?_, by omega⟩
  by_cases h : nd 20 n ≤ 16
  · omega
  · rcases hl2 with h0 | h0
    · omega
    · have := Nat.pow_le_pow_right (show 0 < 10 by omega) (show 16 ≤ nd 20 n - 1 by omega)
      omega

end Go.Proofs.Ytfihlofegginmaa
