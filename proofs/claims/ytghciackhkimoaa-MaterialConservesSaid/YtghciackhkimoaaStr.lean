/-
  Strings as lists of bytes; what a valid identifier is, in plain Lean.
-/
import Derived.Test.YtghciackhkimoaaMem
import Derived.Laws.BytesArg
set_option linter.unusedVariables false
set_option linter.unusedSimpArgs false
namespace Go.Proofs.Ytghciackhkimoaa

/-- The bytes of a string as numbers. -/
def bytesI (s : ByteArray) : List Int := s.data.toList.map fun b => (b.toNat : Int)
theorem bytesI_length (s : ByteArray) : (bytesI s).length = s.size := by rw [bytesI, List.length_map]; rfl
theorem toList_inj {a b : ByteArray} (h : a.toList = b.toList) : a = b := by
  rw [ByteArray.toList_eq, ByteArray.toList_eq] at h
  exact ByteArray.ext (Array.ext' h)
theorem ix_bytesI {s : ByteArray} {i : Nat} (h : i < s.size) : ix (bytesI s) i = ((s[i]'h).toNat : Int) := by
  rw [ix_eq (by rw [bytesI_length]; exact h)]
  simp [bytesI]
  rfl

def letterB (c : Int) : Bool := (decide (97 ≤ c) && decide (c ≤ 122)) || (decide (65 ≤ c) && decide (c ≤ 90))
def okB (c : Int) : Bool := letterB c || (decide (48 ≤ c) && decide (c ≤ 57)) || decide (c = 45) || decide (c = 95) || decide (c = 46)
theorem letterB_true {c : Int} : letterB c = true ↔ (97 ≤ c ∧ c ≤ 122) ∨ (65 ≤ c ∧ c ≤ 90) := by simp [letterB]
theorem okB_true {c : Int} : okB c = true ↔ letterB c = true ∨ (48 ≤ c ∧ c ≤ 57) ∨ c = 45 ∨ c = 95 ∨ c = 46 := by simp [okB, or_assoc]
theorem letterB_false {c : Int} : letterB c = false ↔ ¬ ((97 ≤ c ∧ c ≤ 122) ∨ (65 ≤ c ∧ c ≤ 90)) := by rw [← letterB_true]; simp
theorem okB_false {c : Int} : okB c = false ↔ ¬ (((97 ≤ c ∧ c ≤ 122) ∨ (65 ≤ c ∧ c ≤ 90)) ∨ (48 ≤ c ∧ c ≤ 57) ∨ c = 45 ∨ c = 95 ∨ c = 46) := by rw [← letterB_true, ← okB_true]; simp

/-- A valid identifier. -/
def nameL (l : List Int) : Bool := match l with | [] => false | c :: r => decide (r.length < 32) && (letterB c && r.all okB)
theorem nameL_nil {l : List Int} (h : l.length = 0) : nameL l = false := by cases l <;> simp_all [nameL]
theorem nameL_long {l : List Int} (h : 32 < l.length) : nameL l = false := by
  cases l with
  | nil => simp at h
  | cons c r => simp only [nameL]; rw [decide_eq_false (by simp at h; omega)]; rfl
theorem nameL_first {l : List Int} (h0 : 0 < l.length) (h : letterB (ix l 0) = false) : nameL l = false := by
  cases l with
  | nil => simp at h0
  | cons c r => simp [ix] at h; simp [nameL, h]
theorem nameL_other {l : List Int} {k : Nat} (h1 : 1 ≤ k) (hk : k < l.length) (h : okB (ix l k) = false) : nameL l = false := by
  cases l with
  | nil => simp at hk
  | cons c r =>
    obtain ⟨j, rfl⟩ : ∃ j, k = j + 1 := ⟨k - 1, by omega⟩
    have hj : j < r.length := by simpa using hk
    have e : ix (c :: r) (j + 1) = r[j] := by simp [ix, hj]
    rw [e] at h
    have : r.all okB = false := by
      rw [List.all_eq_false]
      exact ⟨_, List.getElem_mem hj, by simp [h]⟩
    simp [nameL, this]
theorem nameL_ok {l : List Int} (h0 : 0 < l.length) (h32 : l.length ≤ 32) (h : letterB (ix l 0) = true) (ho : ∀ k, 1 ≤ k → k < l.length → okB (ix l k) = true) : nameL l = true := by
  cases l with
  | nil => simp at h0
  | cons c r =>
    simp [ix] at h
    have : r.all okB = true := by
      rw [List.all_eq_true]
      intro x hx
      obtain ⟨j, hj, rfl⟩ := List.mem_iff_getElem.1 hx
      have := ho (j + 1) (by omega) (by simp; omega)
      simpa [ix, hj] using this
    simp [nameL, h, this]
    simp at h32
    omega

end Go.Proofs.Ytghciackhkimoaa
