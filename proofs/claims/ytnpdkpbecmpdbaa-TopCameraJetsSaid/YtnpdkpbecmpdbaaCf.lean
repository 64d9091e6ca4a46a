/-
  camera: the steps of a carry, plainly.
-/
import Derived.Test.YtnpdkpbecmpdbaaCe
set_option linter.unusedVariables false
set_option linter.unusedSimpArgs false
namespace Go.Proofs.Ytnpdkpbecmpdbaa
open Go.RowKit

def addO (R O : Nat → Int) (j : Nat) : Int := O j + R j
/-- The first of k outputs that is owed most, once the rates are added. -/
def bestO (R O : Nat → Int) : Nat → Nat
  | 0 => 0
  | k + 1 => if addO R O (bestO R O k) < addO R O k then k else bestO R O k
def unitO (n : Nat) (R O : Nat → Int) (j : Nat) : Int := addO R O j - if j = bestO R O n then 1000 else 0
def unitsO (n : Nat) (R O : Nat → Int) : Nat → Nat → Int
  | 0 => O
  | k + 1 => unitO n R (unitsO n R O k)
def unitsP (n : Nat) (R O P : Nat → Int) : Nat → Nat → Int
  | 0 => P
  | k + 1 => fun j => unitsP n R O P k j + if j = bestO R (unitsO n R O k) n then 1 else 0
def nextO (rs os : List Int) (x : Int) : List Int := (List.range rs.length).map (unitsO rs.length (ix rs) (ix os) (x % 1000).toNat)
def nextP (rs os : List Int) (x : Int) : List Int := (List.range rs.length).map (unitsP rs.length (ix rs) (ix os) (fun j => x / 1000 * ix rs j) (x % 1000).toNat)
theorem nextO_length (rs os : List Int) (x : Int) : (nextO rs os x).length = rs.length := by simp [nextO]
theorem nextP_length (rs os : List Int) (x : Int) : (nextP rs os x).length = rs.length := by simp [nextP]
theorem ix_range (n : Nat) (f : Nat → Int) {j : Nat} (h : j < n) : ix ((List.range n).map f) j = f j := by rw [ix_eq (by simpa using h)]; simp
theorem ix_nextO (rs os : List Int) (x : Int) {j : Nat} (h : j < rs.length) : ix (nextO rs os x) j = unitsO rs.length (ix rs) (ix os) (x % 1000).toNat j := ix_range _ _ h
theorem ix_nextP (rs os : List Int) (x : Int) {j : Nat} (h : j < rs.length) : ix (nextP rs os x) j = unitsP rs.length (ix rs) (ix os) (fun j => x / 1000 * ix rs j) (x % 1000).toNat j := ix_range _ _ h

def sumF (f : Nat → Int) : Nat → Int
  | 0 => 0
  | n + 1 => sumF f n + f n
theorem sumF_add (f g : Nat → Int) : ∀ n, sumF (fun j => f j + g j) n = sumF f n + sumF g n
  | 0 => rfl
  | n + 1 => by simp only [sumF]; rw [sumF_add f g n]; omega
theorem sumF_hit (f : Nat → Int) (b : Nat) (c : Int) : ∀ n, sumF (fun j => f j + if j = b then c else 0) n = sumF f n + if b < n then c else 0
  | 0 => by simp [sumF]
  | n + 1 => by
    simp only [sumF]
    rw [sumF_hit f b c n]
    rcases Nat.lt_trichotomy b n with h | h | h
    · rw [if_pos h, if_neg (by omega), if_pos (by omega)]; omega
    · rw [if_neg (by omega), if_pos h.symm, if_pos (by omega)]; omega
    · rw [if_neg (by omega), if_neg (by omega), if_neg (by omega)]; omega
theorem sumF_congr {f g : Nat → Int} : ∀ {n : Nat}, (∀ j, j < n → f j = g j) → sumF f n = sumF g n
  | 0, _ => rfl
  | n + 1, h => by simp only [sumF]; rw [sumF_congr (n := n) fun j hj => h j (by omega), h n (by omega)]
theorem sumF_mul (f : Nat → Int) (c : Int) : ∀ n, sumF (fun j => c * f j) n = c * sumF f n
  | 0 => by simp [sumF]
  | n + 1 => by simp only [sumF]; rw [sumF_mul f c n, Int.mul_add]
theorem sumF_zero : ∀ n, sumF (fun _ => 0) n = 0
  | 0 => rfl
  | n + 1 => by simp only [sumF]; rw [sumF_zero n]; rfl
theorem sumF_ix (l : List Int) : sumF (ix l) l.length = l.sum := by
  have : ∀ k, k ≤ l.length → sumF (ix l) k = (l.take k).sum := by
    intro k
    induction k with
    | zero => intro _; rfl
    | succ k ih => intro h; rw [take_ix (by omega), List.sum_append, ← ih (by omega)]; simp [sumF]
  rw [this _ (Nat.le_refl _), List.take_length]
theorem sumF_pos {f : Nat → Int} : ∀ {n : Nat}, 0 < sumF f n → ∃ j, j < n ∧ 0 < f j
  | 0, h => absurd h (by simp [sumF])
  | n + 1, h => by
    simp only [sumF] at h
    by_cases h1 : 0 < f n
    · exact ⟨n, by omega, h1⟩
    · obtain ⟨j, h2, h3⟩ := sumF_pos (f := f) (n := n) (by omega)
      exact ⟨j, by omega, h3⟩
theorem sumF_low {f : Nat → Int} : ∀ {n : Nat}, (∀ j, j < n → -1000 < f j) → -1000 * (n : Int) ≤ sumF f n
  | 0, h => by simp [sumF]
  | n + 1, h => by
    simp only [sumF]
    have h1 := sumF_low (f := f) (n := n) fun j hj => h j (by omega)
    have h2 := h n (by omega)
    omega
theorem sumF_high {f : Nat → Int} : ∀ {n : Nat}, (∀ j, j < n → -1000 < f j) → ∀ j, j < n → f j ≤ sumF f n + 1000 * ((n : Int) - 1)
  | 0, _, j, hj => absurd hj (by omega)
  | n + 1, h, j, hj => by
    simp only [sumF]
    have h1 := sumF_low (f := f) (n := n) fun j hj => h j (by omega)
    have h2 := h n (by omega)
    by_cases hjn : j = n
    · subst hjn; omega
    · have h3 := sumF_high (f := f) (n := n) (fun j hj => h j (by omega)) j (by omega)
      omega

theorem bestO_lt (R O : Nat → Int) : ∀ {k : Nat}, 1 ≤ k → bestO R O k < k
  | k + 1, _ => by
    unfold bestO
    split
    · omega
    · by_cases h : 1 ≤ k
      · have := bestO_lt R O h; omega
      · obtain rfl : k = 0 := by omega
        exact Nat.zero_lt_one
theorem bestO_max (R O : Nat → Int) : ∀ {k j : Nat}, j < k → addO R O j ≤ addO R O (bestO R O k)
  | k + 1, j, h => by
    unfold bestO
    by_cases hj : j = k
    · subst hj; split <;> omega
    · have := bestO_max R O (k := k) (j := j) (by omega)
      split <;> omega
theorem bestO_one {R O : Nat → Int} {c : Nat} (h : ∀ j, j ≠ c → addO R O j < addO R O c) : ∀ {k : Nat}, c < k → bestO R O k = c
  | k + 1, hk => by
    by_cases hc : c < k
    · unfold bestO
      rw [bestO_one h hc, if_neg]
      by_cases hkc : k = c
      · omega
      · have := h k hkc; omega
    · obtain rfl : c = k := by omega
      unfold bestO
      split
      · rfl
      · next hn =>
        by_cases hb : bestO R O c = c
        · exact hb
        · exact absurd (h _ hb) hn

/-- What is owed adds up to nothing, and nobody owes a whole unit. -/
def okO (n : Nat) (O : Nat → Int) : Prop := sumF O n = 0 ∧ ∀ j, j < n → -1000 < O j
theorem okO.high {n : Nat} {O : Nat → Int} (h : okO n O) {j : Nat} (hj : j < n) : O j ≤ 1000 * ((n : Int) - 1) := by
  have := sumF_high h.2 j hj
  rw [h.1] at this
  omega
theorem okO.zero (n : Nat) : okO n (fun _ => 0) := ⟨sumF_zero n, fun _ _ => (by decide : (-1000 : Int) < 0)⟩
theorem okO.congr {n : Nat} {O O' : Nat → Int} (h : okO n O) (e : ∀ j, j < n → O j = O' j) : okO n O' := ⟨(sumF_congr e).symm.trans h.1, fun j hj => by rw [← e j hj]; exact h.2 j hj⟩

section
variable {n : Nat} {R O : Nat → Int}
theorem okO.unit (h1 : 1 ≤ n) (hR : ∀ j, j < n → 0 ≤ R j) (hs : sumF R n = 1000) (h : okO n O) : okO n (unitO n R O) := by
  have hb := bestO_lt R O h1
  have hsum : sumF (addO R O) n = 1000 := by
    have := sumF_add O R n
    rw [h.1, hs] at this
    exact this
  refine ⟨?_, fun j hj => ?_⟩
  · have := sumF_hit (addO R O) (bestO R O n) (-1000) n
    rw [hsum, if_pos hb] at this
    rw [show (0 : Int) = 1000 + -1000 by decide, ← this]
    refine sumF_congr fun j _ => ?_
    unfold unitO
    split <;> omega
  · unfold unitO
    split
    · next e =>
      subst e
      obtain ⟨i, hi, hp⟩ := sumF_pos (f := addO R O) (n := n) (by omega)
      have := bestO_max R O hi
      omega
    · have h2 := h.2 j hj
      have h3 := hR j hj
      unfold addO; omega
theorem okO.units (h1 : 1 ≤ n) (hR : ∀ j, j < n → 0 ≤ R j) (hs : sumF R n = 1000) (h : okO n O) : ∀ k, okO n (unitsO n R O k)
  | 0 => h
  | k + 1 => okO.unit h1 hR hs (okO.units h1 hR hs h k)
theorem units_keep (P : Nat → Int) : ∀ k j, 1000 * unitsP n R O P k j + unitsO n R O k j = 1000 * P j + O j + k * R j
  | 0, j => by simp [unitsP, unitsO]
  | k + 1, j => by
    have ih := units_keep P k j
    simp only [unitsP, unitsO, unitO, addO]
    have e : ((k + 1 : Nat) : Int) * R j = k * R j + R j := by rw [Int.natCast_add, Int.add_mul]; simp
    rw [e]
    split <;> omega
theorem units_sum (h1 : 1 ≤ n) (P : Nat → Int) : ∀ k, sumF (unitsP n R O P k) n = sumF P n + k
  | 0 => by simp [unitsP]
  | k + 1 => by
    have ih := units_sum h1 P k
    simp only [unitsP]
    rw [sumF_hit, if_pos (bestO_lt _ _ h1), ih]
    omega
theorem units_low (P : Nat → Int) : ∀ k j, P j ≤ unitsP n R O P k j ∧ unitsP n R O P k j ≤ P j + k
  | 0, j => by simp [unitsP]
  | k + 1, j => by
    have ih := units_low P k j
    simp only [unitsP]
    split <;> omega
end

/-- A list of what is owed. -/
def OkO (rs os : List Int) : Prop := os.length = rs.length ∧ okO rs.length (ix os)
theorem OkO.new (rs : List Int) : OkO rs (List.replicate rs.length 0) := ⟨by simp, (okO.zero _).congr fun j hj => (ix_replicate hj).symm⟩
theorem OkO.next {rs os : List Int} (h0 : rowE rs = 0) (h : OkO rs os) (x : Int) : OkO rs (nextO rs os x) := by
  obtain ⟨h1, h4, hr, hs⟩ := row_ok h0
  refine ⟨nextO_length _ _ _, (okO.units h1 (fun j hj => (hr j hj).1) (by rw [sumF_ix]; exact hs) h.2 _).congr fun j hj => (ix_nextO _ _ _ hj).symm⟩
/-- Nothing is lost, and the rates are followed. -/
theorem next_keep {rs os : List Int} {x : Int} (hx : 0 ≤ x) {j : Nat} (hj : j < rs.length) : 1000 * ix (nextP rs os x) j + ix (nextO rs os x) j = x * ix rs j + ix os j := by
  rw [ix_nextP _ _ _ hj, ix_nextO _ _ _ hj, units_keep]
  have h1 : (((x % 1000).toNat : Nat) : Int) = x % 1000 := Int.toNat_of_nonneg (Int.emod_nonneg _ (by decide))
  rw [h1]
  have h2 : x = 1000 * (x / 1000) + x % 1000 := by omega
  generalize x / 1000 = q at *
  generalize x % 1000 = r at *
  subst h2
  rw [Int.add_mul, Int.mul_assoc]
  omega
theorem next_sum {rs os : List Int} {x : Int} (h0 : rowE rs = 0) (hx : 0 ≤ x) : sumF (ix (nextP rs os x)) rs.length = x := by
  obtain ⟨h1, h4, hr, hs⟩ := row_ok h0
  rw [sumF_congr fun j hj => ix_nextP rs os x hj, units_sum h1, sumF_mul, sumF_ix, hs]
  have h3 : (((x % 1000).toNat : Nat) : Int) = x % 1000 := Int.toNat_of_nonneg (Int.emod_nonneg _ (by decide))
  rw [h3]
  omega
theorem next_low {rs os : List Int} {x : Int} (h0 : rowE rs = 0) (hx : 0 ≤ x) {j : Nat} (hj : j < rs.length) : 0 ≤ ix (nextP rs os x) j := by
  obtain ⟨h1, h4, hr, hs⟩ := row_ok h0
  rw [ix_nextP _ _ _ hj]
  have := (units_low (n := rs.length) (R := ix rs) (O := ix os) (fun j => x / 1000 * ix rs j) (x % 1000).toNat j).1
  have h2 : 0 ≤ x / 1000 * ix rs j := Int.mul_nonneg (by omega) (hr j hj).1
  omega

end Go.Proofs.Ytnpdkpbecmpdbaa
