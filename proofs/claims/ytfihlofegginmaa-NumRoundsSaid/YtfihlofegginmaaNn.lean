/-
  What a decimal form says, in plain Lean: values of digits, the characters of forms, uniqueness.
-/
import Derived.Test.YtfihlofegginmaaNm
set_option linter.unusedVariables false
set_option linter.unusedSimpArgs false
namespace Go.Proofs.Ytfihlofegginmaa

/-- The bytes of a string as numbers. -/
def bytesI (s : ByteArray) : List Int := s.data.toList.map fun b => (b.toNat : Int)
theorem bytesI_length (s : ByteArray) : (bytesI s).length = s.size := by rw [bytesI, List.length_map]; rfl
theorem bytesI_str {xs : List Int} (h : ∀ x ∈ xs, 0 ≤ x ∧ x < 256) : bytesI (strOfNums xs) = xs := by
  rw [bytesI, strOfNums_data, List.map_map]
  refine (List.map_congr_left fun x hx => ?_).trans (List.map_id xs)
  have := h x hx
  simp [UInt8.toNat_ofNat]
  omega
theorem str_bytesI (s : ByteArray) : strOfNums (bytesI s) = s := by
  apply ByteArray.ext
  apply Array.ext'
  rw [strOfNums_data, bytesI, List.map_map]
  refine (List.map_congr_left fun x hx => ?_).trans (List.map_id _)
  simp
theorem bytesI_take {s : ByteArray} {i : Nat} (h : i < s.size) : (bytesI s).take (i + 1) = (bytesI s).take i ++ [((s[i]'h).toNat : Int)] := by
  have hl : i < (bytesI s).length := by rw [bytesI_length]; exact h
  rw [List.take_succ_eq_append_getElem hl]
  congr 2
  simp [bytesI]
  rfl

/-- The number of the digits among bytes. -/
def stepI (n : Int) (b : Int) : Int := if 48 ≤ b ∧ b ≤ 57 then 10 * n + (b - 48) else n
def valI (l : List Int) : Int := l.foldl stepI 0
theorem valI_snoc (l : List Int) (b : Int) : valI (l ++ [b]) = stepI (valI l) b := by simp [valI]
theorem foldl_nonneg : ∀ (l : List Int) (a : Int), 0 ≤ a → a ≤ l.foldl stepI a
  | [], a, h => by simp
  | b :: l, a, h => by
    rw [List.foldl_cons]
    have h1 : a ≤ stepI a b := by
      unfold stepI
      split <;> omega
    exact Int.le_trans h1 (foldl_nonneg l _ (by omega))
theorem valI_nonneg (l : List Int) : 0 ≤ valI l := foldl_nonneg l 0 (Int.le_refl _)
theorem valI_take (l : List Int) (k : Nat) : valI (l.take k) ≤ valI l := by
  conv => rhs; rw [← List.take_append_drop k l]
  unfold valI
  rw [List.foldl_append]
  exact foldl_nonneg _ _ (valI_nonneg _)
theorem valI_digs : ∀ (k n : Nat), valI (digs k n) = ((n % 10 ^ k : Nat) : Int)
  | 0, n => by simp [digs, valI, Nat.mod_one]
  | k + 1, n => by
    rw [digs, valI_snoc, valI_digs k, stepI, if_pos (by omega), Nat.pow_succ, Nat.mul_comm (10 ^ k) 10, Nat.mod_mul]
    omega
theorem valI_dot (d : List Int) (p : Nat) : valI (dotL d p) = valI d := by
  unfold dotL
  split
  · rfl
  · unfold valI
    conv => rhs; rw [← List.take_append_drop (d.length - p) d]
    rw [List.foldl_append, List.foldl_append, List.foldl_cons]
    rfl
theorem valI_fmt {n : Int} {p : Nat} (hn : n.natAbs < 10 ^ 20) : valI (fmtL n p) = (n.natAbs : Int) := by
  have h : valI (dotL (digitsN n.natAbs (p + 1)) p) = (n.natAbs : Int) := by
    rw [valI_dot, digitsN, valI_digs, Nat.mod_eq_of_lt (lenD_spec hn).1]
  unfold fmtL
  split
  · exact h
  · exact h

/-- The characters of forms. -/
def okC (b : Int) : Prop := b = 45 ∨ b = 46 ∨ (48 ≤ b ∧ b ≤ 57)
theorem dot_chars {d : List Int} {p : Nat} (h : ∀ x ∈ d, 48 ≤ x ∧ x ≤ 57) : ∀ x ∈ dotL d p, x = 46 ∨ (48 ≤ x ∧ x ≤ 57) := by
  unfold dotL
  split
  · exact fun x hx => .inr (h x hx)
  · intro x hx
    rw [List.mem_append, List.mem_cons] at hx
    rcases hx with hx | hx | hx
    · exact .inr (h x (List.mem_of_mem_take hx))
    · exact .inl hx
    · exact .inr (h x (List.mem_of_mem_drop hx))
theorem fmt_chars (n : Int) (p : Nat) : ∀ x ∈ fmtL n p, okC x := by
  have h := dot_chars (p := p) (digs_byte (lenD n.natAbs (p + 1)) n.natAbs)
  intro x hx
  unfold fmtL at hx
  split at hx
  · rcases List.mem_cons.1 hx with hx | hx
    · exact .inl hx
    · exact .inr (h x hx)
  · exact .inr (h x hx)
theorem fmt_bytes (n : Int) (p : Nat) : ∀ x ∈ fmtL n p, 0 ≤ x ∧ x < 256 := fun x hx => by
  rcases fmt_chars n p x hx with h | h | h <;> omega
theorem fmt_minus (n : Int) (p : Nat) : 45 ∈ fmtL n p ↔ n < 0 := by
  have h := dot_chars (p := p) (digs_byte (lenD n.natAbs (p + 1)) n.natAbs)
  constructor
  · intro hm
    unfold fmtL at hm
    split at hm
    · assumption
    · rcases h 45 hm with h | h <;> omega
  · intro hn
    rw [fmtL, if_pos hn]; exact List.mem_cons_self
theorem fmt_head (n : Int) (p : Nat) : fmtL n p ≠ [] ∧ (ix (fmtL n p) 0 = 45 ↔ n < 0) := by
  have h := dot_chars (p := p) (digs_byte (lenD n.natAbs (p + 1)) n.natAbs)
  have hlen : (dotL (digitsN n.natAbs (p + 1)) p).length ≠ 0 := by
    have : (digitsN n.natAbs (p + 1)).length = lenD n.natAbs (p + 1) := digs_length _ _
    have h2 : p + 1 ≤ lenD n.natAbs (p + 1) := by unfold lenD; omega
    unfold dotL
    split
    · omega
    · simp only [List.length_append, List.length_cons]; omega
  unfold fmtL
  split
  · next hn => exact ⟨by simp, by simp [ix, hn]⟩
  · next hn =>
    refine ⟨fun e => hlen (by unfold digitsN at e ⊢; rw [e]; rfl), ?_⟩
    have hm : ix (dotL (digitsN n.natAbs (p + 1)) p) 0 ∈ dotL (digitsN n.natAbs (p + 1)) p := by
      rw [ix_eq (by omega)]; exact List.getElem_mem _
    rcases h _ hm with h | h
    · omega
    · omega

/-- s is the form of n. -/
def IsForm (s : ByteArray) (p : Nat) (n : Int) : Prop := inB n = true ∧ strOfNums (fmtL n p) = s
theorem IsForm.bytes {s : ByteArray} {p : Nat} {n : Int} (h : IsForm s p n) : bytesI s = fmtL n p := by rw [← h.2, bytesI_str (fmt_bytes n p)]
theorem IsForm.small {s : ByteArray} {p : Nat} {n : Int} (h : IsForm s p n) : n.natAbs < 10 ^ 20 ∧ (n.natAbs : Int) ≤ 1125899906842624 := by
  have := inB_true.1 h.1
  omega
theorem IsForm.val {s : ByteArray} {p : Nat} {n : Int} (h : IsForm s p n) : valI (bytesI s) = (n.natAbs : Int) := by rw [h.bytes, valI_fmt h.small.1]
theorem IsForm.chars {s : ByteArray} {p : Nat} {n : Int} (h : IsForm s p n) : ∀ x ∈ bytesI s, okC x := by rw [h.bytes]; exact fmt_chars n p
theorem IsForm.unique {s : ByteArray} {p : Nat} {n m : Int} (h : IsForm s p n) (k : IsForm s p m) : n = m := by
  have h1 := h.val
  rw [k.val] at h1
  have h2 := fmt_minus n p
  rw [← h.bytes, k.bytes, fmt_minus] at h2
  omega

/-- What Parse returns. -/
def ParseSpec (s : ByteArray) (places : Int) (r : Int × Int) : Prop :=
  if places < 0 ∨ 6 < places then r = (0, 1) else (IsForm s places.toNat r.1 ∧ r.2 = 0) ∨ (r = (0, 3) ∧ ∀ n, ¬ IsForm s places.toNat n)
theorem ParseSpec.unique {s : ByteArray} {places : Int} {r r' : Int × Int} (h : ParseSpec s places r) (k : ParseSpec s places r') : r = r' := by
  unfold ParseSpec at h k
  split at h
  · next hp => rw [if_pos hp] at k; rw [h, k]
  · next hp =>
    rw [if_neg hp] at k
    rcases h with ⟨h1, h2⟩ | ⟨h1, h2⟩
    · rcases k with ⟨k1, k2⟩ | ⟨k1, k2⟩
      · exact Prod.ext (h1.unique k1) (h2.trans k2.symm)
      · exact absurd h1 (k2 _)
    · rcases k with ⟨k1, k2⟩ | ⟨k1, k2⟩
      · exact absurd k1 (h2 _)
      · rw [h1, k1]

end Go.Proofs.Ytfihlofegginmaa
