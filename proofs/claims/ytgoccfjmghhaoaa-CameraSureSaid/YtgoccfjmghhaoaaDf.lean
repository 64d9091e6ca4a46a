/-
  CameraSure: a camera without errors, plainly; the rows that the law makes.
-/
import Derived.Test.YtgoccfjmghhaoaaCw
import Derived.Test.YtgoccfjmghhaoaaCx3
set_option linter.unusedVariables false
set_option linter.unusedSimpArgs false
namespace Go.Proofs.Ytgoccfjmghhaoaa
open Go.RowKit

/-- A row of rates that is sure of class c. -/
def sureR (n c : Nat) : List Int := (List.range n).map fun j => if j = c then 1000 else 0
theorem sureR_length (n c : Nat) : (sureR n c).length = n := by simp [sureR]
theorem ix_sureR {n c j : Nat} (h : j < n) : ix (sureR n c) j = if j = c then 1000 else 0 := ix_range n _ h
theorem sureR_sum {n c : Nat} (h : c < n) : (sureR n c).sum = 1000 := by
  have h1 := sumF_ix (sureR n c)
  rw [sureR_length] at h1
  rw [← h1, sumF_congr (g := fun j => (fun _ => (0 : Int)) j + if j = c then 1000 else 0) (fun j hj => by rw [ix_sureR hj]; simp), sumF_hit, sumF_zero, if_pos h]
  rfl
theorem sureR_ok {n c : Nat} (h : c < n) (h4 : n ≤ 4) : rowE (sureR n c) = 0 := by
  rw [rowE_sum (by rw [sureR_length]; omega), if_pos (sureR_sum h)]
  rw [List.any_eq_false]
  intro x hx
  simp only [sureR, List.mem_map] at hx
  obtain ⟨j, _, rfl⟩ := hx
  unfold badR
  split <;> decide
theorem sure_units {n c : Nat} (h : c < n) (h4 : n ≤ 4) {O : Nat → Int} (hO : ∀ j, O j = 0) : ∀ k j, j < n → unitsO n (ix (sureR n c)) O k j = 0 := by
  have R0 : ∀ j, ix (sureR n c) j = if j = c then 1000 else 0 := fun j => by
    by_cases hj : j < n
    · exact ix_sureR hj
    · have : ix (sureR n c) j = 0 := by simp [ix, List.getElem?_eq_none (show (sureR n c).length ≤ j by rw [sureR_length]; omega)]
      rw [this, if_neg (by omega)]
  have key : ∀ k j, unitsO n (ix (sureR n c)) O k j = 0 := by
    intro k
    induction k with
    | zero => exact hO
    | succ k ih =>
      intro j
      have hb : bestO (ix (sureR n c)) (unitsO n (ix (sureR n c)) O k) n = c := by
        refine bestO_one (fun j hj => ?_) h
        unfold addO
        rw [ih j, ih c, R0, R0, if_neg hj, if_pos rfl]; decide
      show unitO n (ix (sureR n c)) (unitsO n (ix (sureR n c)) O k) j = 0
      unfold unitO addO
      rw [hb, ih j, R0]
      split <;> rfl
  exact fun k j _ => key k j
theorem ix_zeros (m j : Nat) : ix (List.replicate m (0 : Int)) j = 0 := by
  by_cases h : j < m
  · exact ix_replicate h
  · simp [ix, List.getElem?_eq_none (show (List.replicate m (0 : Int)).length ≤ j by simp; omega)]
theorem sure_next {n c : Nat} (h : c < n) (h4 : n ≤ 4) {x : Int} (hx : 0 ≤ x) {m j : Nat} (hj : j < n) : ix (nextP (sureR n c) (List.replicate m 0) x) j = if j = c then x else 0 := by
  have h1 := next_keep (rs := sureR n c) (os := List.replicate m 0) hx (j := j) (by rw [sureR_length]; exact hj)
  rw [ix_nextO _ _ _ (by rw [sureR_length]; exact hj), sureR_length, sure_units h h4 (ix_zeros m) _ j hj, ix_sureR hj, ix_zeros] at h1
  split at h1
  · next e => rw [if_pos e]; omega
  · next e => rw [if_neg e]; omega

/-- The camera that the law makes. -/
def sureC (n outs : Nat) (cls : Nat → Nat) : List (List Int) := (List.range n).map fun j => sureR outs (cls j)
theorem sureC_length (n outs : Nat) (cls : Nat → Nat) : (sureC n outs cls).length = n := by simp [sureC]
theorem rx_sureC {n outs j : Nat} {cls : Nat → Nat} (h : j < n) : rx (sureC n outs cls) j = sureR outs (cls j) := by
  rw [rx_eq (by rw [sureC_length]; exact h)]; simp [sureC]
theorem sureC_rows {outs : Nat} {l : List (List Int)} (h : ∀ x ∈ l, rowE x = 0) : rowsE l = 0 := by
  induction l with
  | nil => rfl
  | cons x r ih =>
    unfold rowsE
    rw [if_pos (h x List.mem_cons_self)]
    exact ih fun y hy => h y (List.mem_cons_of_mem _ hy)
theorem sureC_ok {n outs : Nat} {cls : Nat → Nat} (n1 : 1 ≤ n) (n16 : n ≤ 16) (o4 : outs ≤ 4) (hc : ∀ j, j < n → cls j < outs) : camE (sureC n outs cls) n = 0 := by
  have hr : rowsE (sureC n outs cls) = 0 := sureC_rows (outs := outs) fun x hx => by
    simp only [sureC, List.mem_map, List.mem_range] at hx
    obtain ⟨j, hj, rfl⟩ := hx
    exact sureR_ok (hc j hj) o4
  rw [camE_o (by omega) (by rw [sureC_length]) hr, if_neg]
  unfold oddB
  rw [Bool.not_eq_true, List.any_eq_false]
  intro x hx
  simp only [sureC, List.mem_map, List.mem_range] at hx
  obtain ⟨j, hj, rfl⟩ := hx
  rw [rx_sureC (by omega), sureR_length, sureR_length]
  simp

/-- Rows and masses, as the law makes them. -/
structure SureS (w wr : World) (C : Nat) (ao : Option Addr) (co k outs : Nat) (g cls : Nat → Nat) (ai : Option Addr) (ci m : Nat) (mass : Nat → Int) : Prop where
  mod : Mod NoBlock w wr
  hC : w.heap.size ≤ C
  str : wr.rowIs C 24 1 (fun i => (#[.slice ao k co] : Array Value).getD i undef)
  own : Own wr (C + 1) 41 ao co (rowsV k g outs)
  rows : ∀ j, j < k → wr.rowIs (g j) 3 outs (fun c => .int .i64 (if c = cls j then 1000 else 0)) ∧ C + 1 ≤ g j ∧ some (g j) ≠ blockOf ao ∧ some (g j) ≠ blockOf ai
  inn : Own wr (C + 1) 3 ai ci (rowV m mass)
  sep : Apart ao ai
section
variable {w wr w1 w4 : World} {C : Nat} {ao a' : Option Addr} {co c' k outs : Nat} {g cls : Nat → Nat} {ai : Option Addr} {ci m : Nat} {mass : Nat → Int}
theorem SureS.addRow (h : SureS w wr C ao co k outs g cls ai ci m mass) (hm : Mod NoBlock wr w1) (hr : w1.rowIs wr.heap.size 3 outs (fun c => .int .i64 (if c = cls k then 1000 else 0))) {o : Obj}
    (ho : Own w4 (C + 1) 41 a' c' (rowsV k g outs ++ [.slice (some ⟨wr.heap.size, 0, none⟩) outs outs])) (hg : (w1.alloc o).grownBy w4 (blockOf ao)) (ha : blockOf a' = blockOf ao ∨ blockOf a' = some (w1.alloc o).heap.size) :
    SureS w (w4.setCell ⟨C, 0, none⟩ (.slice a' (k + 1) c')) C a' c' (k + 1) outs (fun j => if j = k then wr.heap.size else g j) cls ai ci m mass := by
  have hC := h.hC
  have hCl := h.str.lt
  have hsz := hm.size
  have hrl := hr.lt
  have hb : ∀ b, b < w1.heap.size → some b ≠ blockOf ao → w4.heap[b]? = w1.heap[b]? := fun b hb hn => (hg.block b (by simp; omega) hn).trans (Below.heap_alloc w1 _ _ hb)
  have hb0 : ∀ b, b < wr.heap.size → some b ≠ blockOf ao → w4.heap[b]? = wr.heap[b]? := fun b hb' hn => (hb b (by omega) hn).trans (hm.block b hb' id)
  have hnew : ∀ b, b < w1.heap.size → some b ≠ blockOf ao → some b ≠ blockOf a' := fun b hb hn e => by
    rcases ha with ha | ha
    · exact hn (e.trans ha)
    · rw [ha] at e; injection e with e; simp at e; omega
  have ms : Mod (fun b => b = C) w4 (w4.setCell ⟨C, 0, none⟩ (.slice a' (k + 1) c')) := (Mod.refl _ w4).set1 _ _
  have hm4 : Mod NoBlock w w4 := ((h.mod.trans hm).alloc o).grown hg fun b e => .inr (by have := (h.own.lt e).1; omega)
  have hkn : some wr.heap.size ≠ blockOf ao := fun e => by have := (h.own.lt e.symm).2; omega
  have hki : some wr.heap.size ≠ blockOf ai := fun e => by have := (h.inn.lt e.symm).2; omega
  refine ⟨hm4.setCell (p := ⟨C, 0, none⟩) (.inr hC) _, hC, ?_, ?_, fun j hj => ?_, ?_, ?_⟩
  · refine ((h.str.of_block (hb0 C hCl (h.own.away (Nat.lt_succ_self C)))).set 0 _).congr fun i hi => ?_
    obtain rfl : i = 0 := by omega
    rfl
  · rw [← rowsV_snoc]
    exact ho.mod ms (fun b e e2 => by have := (ho.lt e).1; omega)
  · show World.rowIs _ (if j = k then wr.heap.size else g j) _ _ _ ∧ C + 1 ≤ (if j = k then wr.heap.size else g j) ∧ some (if j = k then wr.heap.size else g j) ≠ _ ∧ some (if j = k then wr.heap.size else g j) ≠ _
    by_cases hjk : j = k
    · subst hjk
      rw [if_pos rfl]
      exact ⟨(hr.of_block (hb _ hrl hkn)).setOther (by show ¬ _ = C; omega) _, by omega, hnew _ hrl hkn, hki⟩
    · rw [if_neg hjk]
      obtain ⟨h1, h2, h3, h4⟩ := h.rows j (by omega)
      have := h1.lt
      exact ⟨(h1.of_block (hb0 _ this h3)).setOther (by show ¬ _ = C; omega) _, h2, hnew _ (by omega) h3, h4⟩
  · exact (h.inn.same fun b e => hb0 b (h.inn.lt e).2 (fun e2 => h.sep b e2.symm e)).mod ms (fun b e e2 => by have := (h.inn.lt e).1; omega)
  · intro b e e2
    exact hnew b (by have := (h.inn.lt e2).2; omega) (fun e3 => h.sep b e3.symm e2) e.symm
theorem SureS.addMass (h : SureS w wr C ao co k outs g cls ai ci m mass) {o : Obj}
    (ho : Own w4 (C + 1) 3 a' c' (rowV m mass ++ [.int .i64 (mass m)])) (hg : (wr.alloc o).grownBy w4 (blockOf ai)) (ha : blockOf a' = blockOf ai ∨ blockOf a' = some (wr.alloc o).heap.size) :
    SureS w w4 C ao co k outs g cls a' c' (m + 1) mass := by
  have hC := h.hC
  have hCl := h.str.lt
  have hb : ∀ b, b < wr.heap.size → some b ≠ blockOf ai → w4.heap[b]? = wr.heap[b]? := fun b hb hn => (hg.block b (by simp; omega) hn).trans (Below.heap_alloc wr _ _ hb)
  have hnew : ∀ b, b < wr.heap.size → some b ≠ blockOf ai → some b ≠ blockOf a' := fun b hb hn e => by
    rcases ha with ha | ha
    · exact hn (e.trans ha)
    · rw [ha] at e; injection e with e; simp at e; omega
  refine ⟨(h.mod.alloc o).grown hg fun b e => .inr (by have := (h.inn.lt e).1; omega), hC, h.str.of_block (hb C hCl (h.inn.away (Nat.lt_succ_self C))), h.own.same fun b e => hb b (h.own.lt e).2 (fun e2 => h.sep b e e2.symm), fun j hj => ?_, by rw [← rowV_snoc]; exact ho, fun b e e2 => ?_⟩
  · obtain ⟨h1, h2, h3, h4⟩ := h.rows j hj
    exact ⟨h1.of_block (hb _ h1.lt h4), h2, h3, hnew _ h1.lt h4⟩
  · exact hnew b (h.own.lt e).2 (fun e3 => h.sep b e e3.symm) e2.symm
theorem SureS.cam (h : SureS w wr C ao co k outs g cls ai ci m mass) (hk : k ≤ maxLen) (ho : outs ≤ maxLen) : Mixes (fun b => C + 1 ≤ b) wr ao (sureC k outs cls) := by
  refine ⟨by rw [sureC_length]; exact hk, fun hn => ?_⟩
  have h0 : 0 < k := by
    have := List.length_pos_iff.2 hn
    rwa [sureC_length] at this
  obtain ⟨q, e, hq, _, hcells, _⟩ := h.own.head (by intro e; have e2 := congrArg List.length e; rw [rowsV_length] at e2; have e3 : k = 0 := e2; omega)
  subst e
  refine ⟨q, 0, rfl, hq, fun j hj => ?_⟩
  rw [sureC_length] at hj
  obtain ⟨h1, h2, _, _⟩ := h.rows j hj
  rw [rx_sureC hj, sureR_length, Nat.zero_add]
  exact ⟨_, _, hcells j _ (rowsV_get hj), Ints.of_row h1 (by rw [sureR_length]; exact Nat.le_refl _) (by rw [sureR_length]; exact ho) (fun c hc => by rw [sureR_length] at hc; rw [ix_sureR hc]) h2⟩
end

end Go.Proofs.Ytgoccfjmghhaoaa
