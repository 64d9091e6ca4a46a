/-
  What the laws MaterialBack, MaterialPurities, MaterialConserves need of the numbers, in plain Lean.
-/
import Derived.Test.YtghciackhkimoaaVq
set_option linter.unusedVariables false
set_option linter.unusedSimpArgs false
namespace Go.Proofs.Ytghciackhkimoaa

theorem addL_err {a b : List Int} (h : ¬ (addL a b).2 = 0) : (addL a b).1 = [] := by
  unfold addL at h ⊢
  split
  · rfl
  · next hb =>
    rw [if_neg hb] at h
    split
    · rfl
    · next ho => rw [if_neg ho] at h; exact absurd rfl h
theorem divL_err {xs : List Int} {n : Int} (h : ¬ (divL xs n).2 = 0) : (divL xs n).1 = [] := by
  unfold divL at h ⊢
  split
  · next hb =>
    rw [if_pos hb] at h
    split
    · rfl
    · next ho => rw [if_neg ho] at h; exact absurd rfl h
  · rfl
theorem divL_good {xs : List Int} {n : Int} (h : (divL xs n).2 = 0) : faultL xs = 0 ∧ 1 ≤ n ∧ n ≤ 64 ∧ divL xs n = (partsL xs n.toNat, 0) := by
  unfold divL at h ⊢
  by_cases hf : faultL xs = 0
  · rw [if_pos hf] at h ⊢
    by_cases hn : n < 1 ∨ 64 < n
    · rw [if_pos hn] at h; exact absurd h (by decide)
    · rw [if_neg hn]; exact ⟨hf, by omega, by omega, rfl⟩
  · rw [if_neg hf] at h; exact absurd h hf

theorem sums_comm (a b : List Int) : sumsL a b = sumsL b a := by
  unfold sumsL
  induction a generalizing b with
  | nil => cases b <;> rfl
  | cons x a ih => cases b with
    | nil => rfl
    | cons y b => simp only [List.zipWith_cons_cons, ih]; rw [Int.add_comm]
theorem sums_sum : ∀ {a b : List Int}, a.length = b.length → (sumsL a b).sum = a.sum + b.sum
  | [], [], _ => by simp [sumsL]
  | [], _ :: _, h => by simp at h
  | _ :: _, [], h => by simp at h
  | x :: a, y :: b, h => by
    have ih := sums_sum (a := a) (b := b) (by simpa using h)
    unfold sumsL at ih ⊢
    simp only [List.zipWith_cons_cons, List.sum_cons, ih]; omega
theorem diffs_sums : ∀ {a b : List Int}, a.length = b.length → diffsL (sumsL a b) b = a
  | [], [], _ => rfl
  | [], _ :: _, h => by simp at h
  | _ :: _, [], h => by simp at h
  | x :: a, y :: b, h => by
    have ih := diffs_sums (a := a) (b := b) (by simpa using h)
    unfold sumsL diffsL at ih ⊢
    simp only [List.zipWith_cons_cons, ih]; congr 1; omega

theorem back_facts {a b : List Int} (h : (addL a b).2 = 0) :
    ∃ s, addL a b = (s, 0) ∧ addL b a = (s, 0) ∧ subL s b = (a, 0) ∧ totL a = (a.sum, 0) ∧ totL b = (b.sum, 0) ∧ totL s = (a.sum + b.sum, 0) ∧ 0 ≤ a.sum ∧ a.sum ≤ 17179869184 ∧ 0 ≤ b.sum ∧ b.sum ≤ 17179869184 := by
  have hb : bothL a b = 0 := by
    by_cases hb : bothL a b = 0
    · exact hb
    · unfold addL at h; rw [if_pos hb] at h; exact h
  obtain ⟨fa, fb, hl⟩ := both_zero hb
  have hk := addL_ok fa fb hl
  have hfs : faultL (sumsL a b) = 0 := by
    by_cases hf : faultL (sumsL a b) = 0
    · exact hf
    · rw [hk, if_neg hf] at h; exact absurd h (by decide)
  rw [if_pos hfs] at hk
  have hk2 := addL_ok fb fa hl.symm
  rw [sums_comm b a, if_pos hfs] at hk2
  have hls : (sumsL a b).length = b.length := by rw [sumsL_length hl, hl]
  have hd := subL_ok hfs fb hls
  rw [diffs_sums hl, if_pos fa] at hd
  have ba := sum_bound fa
  have bb := sum_bound fb
  exact ⟨_, hk, hk2, hd, totL_ok fa, totL_ok fb, by rw [totL_ok hfs, sums_sum hl], ba.1, ba.2, bb.1, bb.2⟩

theorem sum_nonneg_of : ∀ {l : List Int}, (∀ x ∈ l, 0 ≤ x) → 0 ≤ l.sum
  | [], _ => by simp
  | x :: l, h => by
    have h1 := h x List.mem_cons_self
    have h2 := sum_nonneg_of (l := l) fun y hy => h y (List.mem_cons_of_mem _ hy)
    rw [List.sum_cons]; omega
theorem sum_take_le {xs : List Int} (h : ∀ x ∈ xs, 0 ≤ x) (k : Nat) : (xs.take k).sum ≤ xs.sum := by
  have e : xs.sum = (xs.take k).sum + (xs.drop k).sum := by rw [← List.sum_append, List.take_append_drop]
  have := sum_nonneg_of (l := xs.drop k) fun x hx => h x (List.mem_of_mem_drop hx)
  omega
theorem mem_nonneg {xs : List Int} (h : faultL xs = 0) : ∀ x ∈ xs, 0 ≤ x := fun x hx => by
  obtain ⟨k, hk, rfl⟩ := List.mem_iff_getElem.1 hx
  rw [← ix_eq hk]
  exact ((ok_of_fault h).2 k hk).1

/-- One purity. -/
theorem pur_step {x S P T k : Int} (hx : 0 ≤ x) (hxS : x ≤ S) (hS : 0 < S) (h1 : P * S ≤ 1000 * T) (h2 : 1000 * T ≤ P * S + k * (S - 1)) :
    0 ≤ x * 1000 / S ∧ x * 1000 / S ≤ 1000 ∧ (P + x * 1000 / S) * S ≤ 1000 * (T + x) ∧ 1000 * (T + x) ≤ (P + x * 1000 / S) * S + (k + 1) * (S - 1) := by
  have e1 := Int.mul_ediv_add_emod (x * 1000) S
  have e2 := Int.emod_nonneg (x * 1000) (show S ≠ 0 by omega)
  have e3 := Int.emod_lt_of_pos (x * 1000) hS
  have p0 : 0 ≤ x * 1000 / S := Int.ediv_nonneg (by omega) (by omega)
  have p1 : x * 1000 / S ≤ 1000 := by
    have : x * 1000 / S < 1001 := Int.ediv_lt_of_lt_mul hS (by omega)
    omega
  generalize x * 1000 / S = p at *
  rw [Int.mul_comm] at e1
  have e4 : (P + p) * S = P * S + p * S := Int.add_mul _ _ _
  have e5 : (k + 1) * (S - 1) = k * (S - 1) + (S - 1) := by rw [Int.add_mul, Int.one_mul]
  refine ⟨p0, p1, ?_, ?_⟩ <;> omega
theorem pur_end {P S k : Int} (hS : 0 < S) (hk : 1 ≤ k) (h1 : P * S ≤ 1000 * S) (h2 : 1000 * S ≤ P * S + k * (S - 1)) : P ≤ 1000 ∧ 1000 - k < P := by
  refine ⟨Int.le_of_mul_le_mul_right h1 hS, ?_⟩
  have e : k * (S - 1) = k * S - k := by rw [Int.mul_sub, Int.mul_one]
  have : 1000 * S < (P + k) * S := by rw [Int.add_mul]; omega
  have := Int.lt_of_mul_lt_mul_right this (by omega)
  omega

/-- What the first i parts of x among N make. -/
def cumN (N : Nat) (i : Nat) (x : Int) : Int := (i : Int) * (x / N) + (if (i : Int) < x % N then (i : Int) else x % N)
def cumL (xs : List Int) (N i : Nat) : List Int := xs.map (cumN N i)
theorem cumL_length (xs : List Int) (N i : Nat) : (cumL xs N i).length = xs.length := by simp [cumL]
theorem ix_cumL {xs : List Int} {N i j : Nat} (hj : j < xs.length) : ix (cumL xs N i) j = cumN N i (ix xs j) := by
  rw [ix_eq (by simpa [cumL] using hj), ix_eq hj]; simp [cumL]
theorem cumN_zero {N : Nat} {x : Int} (hN : 1 ≤ N) : cumN N 0 x = 0 := by
  unfold cumN
  have := Int.emod_nonneg x (show (N : Int) ≠ 0 by omega)
  simp
  omega
theorem cumN_all {N : Nat} {x : Int} (hN : 1 ≤ N) : cumN N N x = x := by
  unfold cumN
  have h1 := Int.mul_ediv_add_emod x N
  have h3 := Int.emod_lt_of_pos x (show (0 : Int) < N by omega)
  rw [if_neg (by omega)]; omega
theorem cumN_succ {N i : Nat} {x : Int} : cumN N i x + partN N x i = cumN N (i + 1) x := by
  unfold cumN partN
  have e : ((i + 1 : Nat) : Int) * (x / N) = (i : Int) * (x / N) + x / N := by rw [Int.natCast_add, Int.add_mul]; simp
  rw [e]
  generalize x % (N : Int) = r
  by_cases h : (i : Int) < r
  · rw [if_pos h, if_pos h]
    by_cases h2 : ((i + 1 : Nat) : Int) < r
    · rw [if_pos h2]; omega
    · rw [if_neg h2]; omega
  · rw [if_neg h, if_neg h, if_neg (by omega)]; omega
theorem partN_nonneg {N i : Nat} {x : Int} (hN : 1 ≤ N) (hx : 0 ≤ x) : 0 ≤ partN N x i := by
  unfold partN
  have := Int.ediv_nonneg hx (show (0 : Int) ≤ N by omega)
  split <;> omega
theorem cumN_mono {N : Nat} {x : Int} (hN : 1 ≤ N) (hx : 0 ≤ x) {i : Nat} : ∀ {j : Nat}, i ≤ j → cumN N i x ≤ cumN N j x
  | 0, h => by obtain rfl : i = 0 := by omega
               exact Int.le_refl _
  | j + 1, h => by
    by_cases e : i = j + 1
    · subst e; exact Int.le_refl _
    · have := cumN_mono hN hx (i := i) (j := j) (by omega)
      have h2 := cumN_succ (N := N) (i := j) (x := x)
      have h3 := partN_nonneg (i := j) hN hx
      omega
theorem cumN_bounds {N i : Nat} {x : Int} (hN : 1 ≤ N) (hx : 0 ≤ x) (hi : i ≤ N) : 0 ≤ cumN N i x ∧ cumN N i x ≤ x := by
  have h1 := cumN_mono hN hx (i := 0) (j := i) (by omega)
  have h2 := cumN_mono hN hx hi
  rw [cumN_zero hN] at h1
  rw [cumN_all hN] at h2
  exact ⟨h1, h2⟩
theorem partN_le {N i : Nat} {x : Int} (hN : 1 ≤ N) (hx : 0 ≤ x) (hi : i < N) : partN N x i ≤ x := by
  have h1 := cumN_bounds hN hx (show i ≤ N by omega)
  have h2 := cumN_bounds hN hx (show i + 1 ≤ N by omega)
  have h3 := cumN_succ (N := N) (i := i) (x := x)
  omega
theorem fault_map {xs : List Int} {f : Int → Int} (h : faultL xs = 0) (hf : ∀ x, 0 ≤ x → 0 ≤ f x ∧ f x ≤ x) : faultL (xs.map f) = 0 := by
  obtain ⟨hl, hg⟩ := ok_of_fault h
  refine faultL_ok (by simpa using hl) ?_
  rw [List.any_eq_false]
  intro y hy
  obtain ⟨x, hx, rfl⟩ := List.mem_map.1 hy
  obtain ⟨k, hk, rfl⟩ := List.mem_iff_getElem.1 hx
  have h1 := hg k hk
  rw [ix_eq hk] at h1
  have h2 := hf _ h1.1
  simp [badMass]; omega
theorem fault_cum {xs : List Int} {N i : Nat} (h : faultL xs = 0) (hN : 1 ≤ N) (hi : i ≤ N) : faultL (cumL xs N i) = 0 := fault_map h fun x hx => cumN_bounds hN hx hi
theorem fault_part {xs : List Int} {N i : Nat} (h : faultL xs = 0) (hN : 1 ≤ N) (hi : i < N) : faultL (rx (partsL xs N) i) = 0 := by
  rw [rx_partsL hi]; exact fault_map h fun x hx => ⟨partN_nonneg hN hx, partN_le hN hx hi⟩
theorem add_cum {xs : List Int} {N i : Nat} (h : faultL xs = 0) (hN : 1 ≤ N) (hi : i < N) : addL (cumL xs N i) (rx (partsL xs N) i) = (cumL xs N (i + 1), 0) := by
  have hl : (cumL xs N i).length = (rx (partsL xs N) i).length := by rw [cumL_length, rx_partsL hi]; simp
  have hs : sumsL (cumL xs N i) (rx (partsL xs N) i) = cumL xs N (i + 1) := by
    refine ext_ix (by rw [sumsL_length hl, cumL_length, cumL_length]) fun k hk => ?_
    rw [sumsL_length hl, cumL_length] at hk
    rw [ix_sumsL hl (by rw [cumL_length]; exact hk), ix_cumL hk, ix_cumL hk, ix_part hi hk, cumN_succ]
  rw [addL_ok (fault_cum h hN (by omega)) (fault_part h hN hi) hl, hs, if_pos (fault_cum h hN (by omega))]
theorem cum_zero (xs : List Int) {N : Nat} (hN : 1 ≤ N) : cumL xs N 0 = List.replicate xs.length 0 := by
  unfold cumL
  rw [List.map_congr_left (g := fun _ => (0 : Int)) (fun x _ => cumN_zero hN), List.map_const']
theorem cum_all (xs : List Int) {N : Nat} (hN : 1 ≤ N) : cumL xs N N = xs := by
  unfold cumL
  exact (List.map_congr_left (g := fun x => x) fun x _ => cumN_all hN).trans (List.map_id' xs)
theorem part_sum (N i : Nat) : ∀ (xs : List Int), (xs.map fun x => x / (N : Int)).sum ≤ (xs.map fun x => partN N x i).sum ∧ (xs.map fun x => partN N x i).sum ≤ (xs.map fun x => x / (N : Int)).sum + xs.length
  | [] => by simp
  | x :: l => by
    have ih := part_sum N i l
    simp only [List.map_cons, List.sum_cons, List.length_cons]
    unfold partN at ih ⊢
    split <;> omega

end Go.Proofs.Ytghciackhkimoaa
