/-
  share.Even; material.Divide.
-/
import Derived.Test.YtnpdkpbecmpdbaaVl
set_option linter.unusedVariables false
set_option linter.unusedSimpArgs false
namespace Go.Proofs.Ytnpdkpbecmpdbaa
open Go.RowKit

/-- Part k of x among n. -/
def partN (n : Nat) (x : Int) (k : Nat) : Int := x / n + if (k : Int) < x % n then 1 else 0
def evenL (n : Nat) (x : Int) : List Int := (List.range n).map (partN n x)
theorem evenL_length (n : Nat) (x : Int) : (evenL n x).length = n := by simp [evenL]
theorem ix_evenL {n k : Nat} {x : Int} (h : k < n) : ix (evenL n x) k = partN n x k := by simp [ix, evenL, h]

theorem infoInts : (Try.prog.info? 3).map (fun i => (i.zero, i.size, i.bytes)) = some (some (.int .i64 0), 1, 8) := by kernel_rfl

/-! ### A slice of rows of numbers that the call made itself -/

/-- Block B holds n rows; the first i of them are made: row k is a block of m numbers, F k. -/
def Grid (w : World) (base top B n i m : Nat) (F : Nat → Nat → Int) : Prop :=
  ∃ (f : Nat → Value) (g : Nat → Nat), w.rowIs B 36 n f ∧ (∀ k, k < i → f k = .slice (some ⟨g k, 0, Option.none⟩) m m ∧ base ≤ g k ∧ g k < top ∧ g k ≠ B ∧ w.rowIs (g k) 3 m (fun j => .int .i64 (F k j))) ∧ ∀ k k', k < i → k' < i → g k = g k' → k = k'

section
variable {w w' : World} {base top B n i m : Nat} {F : Nat → Nat → Int}
theorem Grid.mod (h : Grid w base top B n i m F) (hm : Mod NoBlock w w') : Grid w' base top B n i m F := by
  obtain ⟨f, g, h1, h2, h3⟩ := h
  exact ⟨f, g, h1.of_block (hm.block _ h1.lt id), fun k hk => ⟨(h2 k hk).1, (h2 k hk).2.1, (h2 k hk).2.2.1, (h2 k hk).2.2.2.1, (h2 k hk).2.2.2.2.of_block (hm.block _ (h2 k hk).2.2.2.2.lt id)⟩, h3⟩
theorem Grid.up {top' : Nat} (h : Grid w base top B n i m F) (ht : top ≤ top') : Grid w base top' B n i m F := by
  obtain ⟨f, g, h1, h2, h3⟩ := h
  exact ⟨f, g, h1, fun k hk => ⟨(h2 k hk).1, (h2 k hk).2.1, Nat.lt_of_lt_of_le (h2 k hk).2.2.1 ht, (h2 k hk).2.2.2⟩, h3⟩
theorem Grid.same {F' : Nat → Nat → Int} (h : Grid w base top B n i m F) (e : ∀ k j, k < i → j < m → F k j = F' k j) : Grid w base top B n i m F' := by
  obtain ⟨f, g, h1, h2, h3⟩ := h
  exact ⟨f, g, h1, fun k hk => ⟨(h2 k hk).1, (h2 k hk).2.1, (h2 k hk).2.2.1, (h2 k hk).2.2.2.1, (h2 k hk).2.2.2.2.congr fun j hj => by rw [e k j hk hj]⟩, h3⟩
/-- A further row. -/
theorem Grid.step (h : Grid w base w.heap.size B n i m F) (hi : i < n) (hB : base ≤ w.heap.size) :
    let W := (w.setCell ⟨B, i, Option.none⟩ (.slice (some ⟨w.heap.size, 0, Option.none⟩) m m)).alloc (.cells (madeCells #[.int .i64 0] m) 3)
    Grid W base W.heap.size B n (i + 1) m (fun k j => if k = i then 0 else F k j) := by
  intro W
  obtain ⟨f, g, h1, h2, h3⟩ := h
  have hs : (w.setCell ⟨B, i, Option.none⟩ (.slice (some ⟨w.heap.size, 0, Option.none⟩) m m)).heap.size = w.heap.size := by simp [World.setCell]
  have hW : W.heap.size = w.heap.size + 1 := by simp [W, hs]
  have hBl := h1.lt
  refine ⟨fun j => if j = i then .slice (some ⟨w.heap.size, 0, Option.none⟩) m m else f j, fun k => if k = i then w.heap.size else g k, (h1.set i _).alloc _, fun k hk => ?_, fun k k' hk hk' he => ?_⟩
  · by_cases hki : k = i
    · subst hki
      have hr := World.rowIs_made (w.setCell ⟨B, k, Option.none⟩ (.slice (some ⟨w.heap.size, 0, Option.none⟩) m m)) (.int .i64 0) m 3
      rw [hs] at hr
      simp only [if_true]
      exact ⟨trivial, hB, by omega, by omega, hr⟩
    · obtain ⟨k1, k2, k3, k4, k5⟩ := h2 k (by omega)
      simp only [if_neg hki]
      exact ⟨k1, k2, by omega, k4, (k5.setOther (by exact k4) _).alloc _⟩
  · have he : (if k = i then w.heap.size else g k) = (if k' = i then w.heap.size else g k') := he
    by_cases hki : k = i
    · by_cases hki' : k' = i
      · omega
      · rw [if_pos hki, if_neg hki'] at he
        have := (h2 k' (by omega)).2.2.1
        omega
    · by_cases hki' : k' = i
      · rw [if_neg hki, if_pos hki'] at he
        have := (h2 k (by omega)).2.2.1
        omega
      · rw [if_neg hki, if_neg hki'] at he
        exact h3 k k' (by omega) (by omega) he
/-- Row k, opened: its address, a cell of it, and what a store there does. -/
theorem Grid.at (h : Grid w base top B n i m F) {k j : Nat} (hk : k < i) (hin : i ≤ n) (hj : j < m) (hB : base ≤ B) :
    ∃ g, w.cell? ⟨B, k, Option.none⟩ = some (.slice (some ⟨g, 0, Option.none⟩) m m) ∧ base ≤ g ∧ g < top ∧ g ≠ B ∧ w.cell? ⟨g, j, Option.none⟩ = some (.int .i64 (F k j)) ∧ w.frozen? ⟨g, j, Option.none⟩ = false ∧
      ∀ v : Int, Grid (w.setCell ⟨g, j, Option.none⟩ (.int .i64 v)) base top B n i m (fun k' j' => if k' = k ∧ j' = j then v else F k' j') := by
  obtain ⟨f, g, h1, h2, h3⟩ := h
  obtain ⟨k1, k2, k3, k4, k5⟩ := h2 k hk
  refine ⟨g k, by rw [h1.cell (by omega), k1], k2, k3, k4, k5.cell hj, k5.frozen j, fun v => ⟨f, g, h1.setOther (by exact fun e => k4 e.symm) _, fun k' hk' => ?_, h3⟩⟩
  obtain ⟨e1, e2, e3, e4, e5⟩ := h2 k' hk'
  refine ⟨e1, e2, e3, e4, ?_⟩
  by_cases hkk : k' = k
  · subst hkk
    refine (e5.set j (.int .i64 v)).congr fun j' _ => ?_
    by_cases hjj : j' = j
    · subst hjj; simp
    · simp [hjj]
  · have hg : g k' ≠ g k := fun e => hkk (h3 k' k hk' hk e)
    refine (e5.setOther (by exact hg) _).congr fun j' _ => ?_
    simp [hkk]
theorem Grid.mixes (h : Grid w base top B n n m F) (xss : List (List Int)) (hB : base ≤ B) (hn : n ≤ maxLen) (hm : m ≤ maxLen) (hl : xss.length = n) (hr : ∀ k, k < n → (rx xss k).length = m ∧ ∀ j, j < m → ix (rx xss k) j = F k j) : Mixes (fun b => base ≤ b) w (some ⟨B, 0, Option.none⟩) xss := by
  obtain ⟨f, g, h1, h2, h3⟩ := h
  refine ⟨by omega, fun _ => ⟨B, 0, rfl, hB, fun k hk => ?_⟩⟩
  rw [hl] at hk
  obtain ⟨k1, k2, k3, k4, k5⟩ := h2 k hk
  obtain ⟨r1, r2⟩ := hr k hk
  refine ⟨some ⟨g k, 0, Option.none⟩, m, by rw [Nat.zero_add, h1.cell hk, k1, r1], Ints.of_row k5 (by omega) (by omega) (fun j hj => by rw [r2 j (by omega)]) k2⟩
end

end Go.Proofs.Ytnpdkpbecmpdbaa
