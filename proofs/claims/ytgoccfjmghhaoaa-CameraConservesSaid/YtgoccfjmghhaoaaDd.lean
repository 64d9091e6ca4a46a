/-
  The law CameraConserves walked.
-/
import Derived.Test.YtgoccfjmghhaoaaDb
import Derived.Test.YtgoccfjmghhaoaaDa
set_option linter.unusedVariables false
set_option linter.unusedSimpArgs false
namespace Go.Proofs.Ytgoccfjmghhaoaa
open Go.RowKit

theorem idx_inj {N j c m k : Nat} (hc : c < N) (hk : k < N) (h : j * N + c = m * N + k) : j = m ∧ c = k := by
  have h1 : (j * N + c) / N = j := by rw [Nat.mul_comm, Nat.mul_add_div (by omega), Nat.div_eq_of_lt hc]; rfl
  have h2 : (m * N + k) / N = m := by rw [Nat.mul_comm, Nat.mul_add_div (by omega), Nat.div_eq_of_lt hk]; rfl
  have e : j = m := by rw [← h1, ← h2, h]
  subst e
  exact ⟨rfl, by omega⟩
theorem idx_lt {N n m k : Nat} (hm : m < n) (hk : k < N) : m * N + k < n * N := by
  have h1 : (m + 1) * N ≤ n * N := Nat.mul_le_mul_right N hm
  rw [Nat.add_mul] at h1
  omega
theorem sumF_part {F : Nat → Int} : ∀ {n k : Nat}, (∀ j, j < n → 0 ≤ F j) → k ≤ n → 0 ≤ sumF F k ∧ sumF F k ≤ sumF F n
  | 0, k, _, hk => by obtain rfl : k = 0 := by omega
                      simp [sumF]
  | n + 1, k, h, hk => by
    by_cases hkn : k = n + 1
    · subst hkn
      have := sumF_part (F := F) (n := n) (k := n) (fun j hj => h j (by omega)) (Nat.le_refl _)
      have := h n (by omega)
      simp only [sumF]; omega
    · have h1 := sumF_part (F := F) (n := n) (k := k) (fun j hj => h j (by omega)) (by omega)
      have := h n (by omega)
      simp only [sumF]; omega

/-- What an eye sees of material m as class c. -/
def seP (l oss : List (List Int)) (xs : List Int) (m c : Nat) : Int := ix (nextP (rx l m) (rx oss m) (ix xs m)) c
theorem seP_row {l oss : List (List Int)} {xs : List Int} {m c : Nat} (hc : c < (rx l 0).length) (hm : m < l.length) : ix (rx (seeL l oss xs) c) m = seP l oss xs m c := by
  rw [rx_seeL hc, ix_range _ _ hm]; rfl
theorem rx_seeL_length {l oss : List (List Int)} {xs : List Int} {c : Nat} (hc : c < (rx l 0).length) : (rx (seeL l oss xs) c).length = l.length := by rw [rx_seeL hc]; simp

/-- What came in and what was seen, in step with what is owed. -/
structure Step (l oss : List (List Int)) (k : Nat) (Cm : Nat → Int) (Sn : Nat → Nat → Int) : Prop where
  came : ∀ m, m < l.length → 0 ≤ Cm m ∧ Cm m ≤ 1073741824 * (k : Int)
  seen : ∀ m, m < l.length → ∀ c, c < (rx l 0).length → 1000 * Sn m c + ix (rx oss m) c = Cm m * ix (rx l m) c
theorem Step.next {l oss : List (List Int)} {k : Nat} {Cm : Nat → Int} {Sn : Nat → Nat → Int} {xs : List Int} (h : Step l oss k Cm Sn) (hok : EyeOk l oss) (hE : seeE l.length xs = 0) :
    Step l (seeN l oss xs) (k + 1) (fun m => Cm m + ix xs m) (fun m c => Sn m c + seP l oss xs m c) := by
  obtain ⟨hf, hlen⟩ := seeE_ok hE
  obtain ⟨_, hg⟩ := ok_of_fault hf
  have e : seeN l oss xs = seeO l oss xs := if_pos hE
  refine ⟨fun m hm => ?_, fun m hm c hc => ?_⟩
  · have h1 := h.came m hm
    have h2 := hg m (by omega)
    show 0 ≤ Cm m + ix xs m ∧ Cm m + ix xs m ≤ _
    omega
  · have h1 := h.seen m hm c hc
    have h2 := hg m (by omega)
    have h3 := next_keep (rs := rx l m) (os := rx oss m) h2.1 (j := c) (by rw [hok.same m hm]; exact hc)
    rw [e, rx_seeO hm]
    show 1000 * (Sn m c + seP l oss xs m c) + _ = (Cm m + ix xs m) * _
    rw [Int.mul_add, Int.add_mul]
    unfold seP
    omega
theorem Step.more {l oss : List (List Int)} {k : Nat} {Cm : Nat → Int} {Sn : Nat → Nat → Int} (h : Step l oss k Cm Sn) : Step l oss (k + 1) Cm Sn :=
  ⟨fun m hm => by have := h.came m hm; omega, h.seen⟩
theorem Step.bound {l oss : List (List Int)} {k : Nat} {Cm : Nat → Int} {Sn : Nat → Nat → Int} (h : Step l oss k Cm Sn) (hok : EyeOk l oss) (hk : k ≤ 12) {m c : Nat} (hm : m < l.length) (hc : c < (rx l 0).length) :
    -1000 ≤ Sn m c ∧ Sn m c ≤ 12884901889 ∧ 0 ≤ Cm m * ix (rx l m) c ∧ Cm m * ix (rx l m) c ≤ 12884901888000 ∧ -1000 < Cm m * ix (rx l m) c - 1000 * Sn m c ∧ Cm m * ix (rx l m) c - 1000 * Sn m c ≤ 1000 * (((rx l 0).length : Int) - 1) := by
  have h1 := h.came m hm
  have h2 := h.seen m hm c hc
  have hs := hok.same m hm
  obtain ⟨_, l4, hr, _⟩ := row_ok (hok.rows m hm)
  have h3 := hr c (by omega)
  have h4 := (hok.owed m hm).2
  have h5 := h4.2 c (by omega)
  have h6 := h4.high (j := c) (by omega)
  have p0 : 0 ≤ Cm m * ix (rx l m) c := Int.mul_nonneg h1.1 h3.1
  have p1 : Cm m * ix (rx l m) c ≤ 12884901888 * 1000 := Int.mul_le_mul (by omega) h3.2 h3.1 (by decide)
  rw [hs] at h6 l4
  generalize Cm m * ix (rx l m) c = q at *
  omega

end Go.Proofs.Ytgoccfjmghhaoaa
