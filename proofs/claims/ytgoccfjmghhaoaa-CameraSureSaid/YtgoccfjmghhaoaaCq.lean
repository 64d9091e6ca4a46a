/-
  camera: the reference's See, its errors; rows of mixes that are appended.
-/
import Derived.Test.YtgoccfjmghhaoaaCp
set_option linter.unusedVariables false
set_option linter.unusedSimpArgs false
namespace Go.Proofs.Ytgoccfjmghhaoaa
open Go.RowKit

set_option maxRecDepth 100000 in
set_option maxHeartbeats 1600000 in
theorem refSee_bad (ae : Option Addr) (ce n : Nat) (a : Option Addr) (c : Nat) (xs : List Int) (D : Nat → Prop) (w : World) (hx : Ints D w a xs) (hn : n ≤ 16) (h : ¬ seeE n xs = 0) :
    Calls Try.prog 18 #[.agg #[.slice ae n ce], .slice a xs.length c] w fun e w' => e = .returned (.tuple #[.agg #[.slice ae n ce], .slice none 0 0, .int .i64 (seeE n xs)]) ∧ Mod NoBlock w w' := by
  have n16 : (n : Int) ≤ 16 := by omega
  have hlx := hx.1
  unfold maxLen at hlx
  have hm0 : Mod NoBlock w ((w.alloc (.cells #[.slice ae n ce] 37)).alloc (.cells #[.slice none 0 0] 37)) := ((Mod.refl NoBlock w).alloc _).alloc _
  have hbox : ((w.alloc (.cells #[.slice ae n ce] 37)).alloc (.cells #[.slice none 0 0] 37)).rowIs w.heap.size 37 1 (fun i => (#[.slice ae n ce] : Array Value).getD i undef) := (rowIs_new w _ _).alloc _
  have hres : ((w.alloc (.cells #[.slice ae n ce] 37)).alloc (.cells #[.slice none 0 0] 37)).rowIs (w.heap.size + 1) 37 1 (fun i => (#[.slice none 0 0] : Array Value).getD i undef) := by
    have := rowIs_new (w.alloc (.cells #[.slice ae n ce] 37)) #[.slice none 0 0] 37
    simpa using this
  have HX := Lib.hid (hx.frame hm0)
  have Hm0 := Lib.hid hm0
  have Hbox := Lib.hid hbox
  have Hres := Lib.hid hres
  clear hx hm0 hbox hres
  by_cases hf : faultL xs = 0
  · have hne : ¬ xs.length = n := fun e => h (by unfold seeE; rw [if_neg (by simpa using hf), if_pos e])
    have hE : seeE n xs = 18 := by unfold seeE; rw [if_neg (by simpa using hf), if_neg hne]
    rw [hE]
    have n1 : ¬ (xs.length : Int) = n := by omega
    have Hf := Lib.hid hf
    clear h hf hE
    go_enter Try.func18, Try.ntmps18
    go_wp2_with fail
    generalize (w.alloc (.cells #[.slice ae n ce] 37)).alloc (.cells #[.slice none 0 0] 37) = w0 at HX Hm0 Hbox Hres ⊢
    refine (fault_any _ _ _ _ _ HX.out).mono ?_
    rintro e w1 ⟨rfl, rfl⟩
    rw [Hf.out]
    have c0 : w0.cell? ⟨w.heap.size, 0, none⟩ = some (.slice ae n ce) := Hbox.out.cell (by omega)
    have c1 : w0.cell? ⟨w.heap.size + 1, 0, none⟩ = some (.slice none 0 0) := Hres.out.cell (by omega)
    have f1 : w0.frozen? ⟨w.heap.size + 1, 0, none⟩ = false := Hres.out.frozen 0
    go_wp2
    have hm6 := Hm0.out.setCell (p := ⟨w.heap.size + 1, 0, none⟩) (.inr (Nat.le_succ _)) (.slice ae n ce)
    have t0 : (w0.setCell ⟨w.heap.size + 1, 0, none⟩ (.slice ae n ce)).cell? ⟨w.heap.size + 1, 0, none⟩ = some (.slice ae n ce) := (Hres.out.set 0 (.slice ae n ce)).cell (by omega)
    generalize w0.setCell ⟨w.heap.size + 1, 0, none⟩ (.slice ae n ce) = w6 at hm6 t0 ⊢
    exact bodyPost_ret (v := .tuple #[.agg #[.slice ae n ce], .slice none 0 0, .int .i64 18]) (by simp [results, Try.results18, go_sem, t0]) rfl ⟨rfl, hm6⟩
  · have hE : seeE n xs = faultL xs := by unfold seeE; rw [if_pos hf]
    have hne : (faultL xs != 0) = true := by simpa using hf
    rw [hE]
    clear h hf hE
    go_enter Try.func18, Try.ntmps18
    go_wp2_with fail
    generalize (w.alloc (.cells #[.slice ae n ce] 37)).alloc (.cells #[.slice none 0 0] 37) = w0 at HX Hm0 Hbox Hres ⊢
    refine (fault_any _ _ _ _ _ HX.out).mono ?_
    rintro e w1 ⟨rfl, rfl⟩
    have c0 : w0.cell? ⟨w.heap.size, 0, none⟩ = some (.slice ae n ce) := Hbox.out.cell (by omega)
    have c1 : w0.cell? ⟨w.heap.size + 1, 0, none⟩ = some (.slice none 0 0) := Hres.out.cell (by omega)
    have f1 : w0.frozen? ⟨w.heap.size + 1, 0, none⟩ = false := Hres.out.frozen 0
    go_wp2
    have hm6 := Hm0.out.setCell (p := ⟨w.heap.size + 1, 0, none⟩) (.inr (Nat.le_succ _)) (.slice ae n ce)
    have t0 : (w0.setCell ⟨w.heap.size + 1, 0, none⟩ (.slice ae n ce)).cell? ⟨w.heap.size + 1, 0, none⟩ = some (.slice ae n ce) := (Hres.out.set 0 (.slice ae n ce)).cell (by omega)
    generalize w0.setCell ⟨w.heap.size + 1, 0, none⟩ (.slice ae n ce) = w6 at hm6 t0 ⊢
    exact bodyPost_ret (v := .tuple #[.agg #[.slice ae n ce], .slice none 0 0, .int .i64 (faultL xs)]) (by simp [results, Try.results18, go_sem, t0]) rfl ⟨rfl, hm6⟩

/-- The rows of mixes that See appends: N of them, made in blocks of their own. -/
def rowsV (n : Nat) (g : Nat → Nat) (m : Nat) : List Value := (List.range n).map fun j => .slice (some ⟨g j, 0, none⟩) m m
theorem rowsV_length (n : Nat) (g : Nat → Nat) (m : Nat) : (rowsV n g m).length = n := by simp [rowsV]
theorem rowsV_get {n j m : Nat} {g : Nat → Nat} (h : j < n) : (rowsV n g m)[j]? = some (.slice (some ⟨g j, 0, none⟩) m m) := by simp [rowsV, h]
theorem rowsV_snoc (n : Nat) (g : Nat → Nat) (m x : Nat) : rowsV n g m ++ [.slice (some ⟨x, 0, none⟩) m m] = rowsV (n + 1) (fun j => if j = n then x else g j) m := by
  refine List.ext_getElem? fun j => ?_
  by_cases hj : j < n
  · rw [List.getElem?_append_left (by rw [rowsV_length]; exact hj), rowsV_get hj, rowsV_get (by omega), if_neg (by omega)]
  · by_cases hjn : j = n
    · subst hjn
      rw [List.getElem?_append_right (by rw [rowsV_length]; omega), rowsV_get (by omega), if_pos rfl, rowsV_length]
      simp
    · rw [List.getElem?_eq_none (by simp [rowsV_length]; omega), List.getElem?_eq_none (by rw [rowsV_length]; omega)]

structure OutS (wr : World) (B : Nat) (ao : Option Addr) (co k m : Nat) (g : Nat → Nat) : Prop where
  own : Own wr B 42 ao co (rowsV k g m)
  rows : ∀ j, j < k → wr.rowIs (g j) 3 m (fun _ => .int .i64 0) ∧ B ≤ g j ∧ some (g j) ≠ blockOf ao
  inj : ∀ j j', j < k → j' < k → g j = g j' → j = j'
theorem OutS.step {wr w4 : World} {B : Nat} {ao a' : Option Addr} {co c' k m : Nat} {g : Nat → Nat} (h : OutS wr B ao co k m g) (hB : B ≤ wr.heap.size) {o : Obj}
    (ho : Own w4 B 42 a' c' (rowsV k g m ++ [.slice (some ⟨wr.heap.size, 0, none⟩) m m])) (hg : ((wr.alloc (.cells (madeCells #[.int .i64 0] m) 3)).alloc o).grownBy w4 (blockOf ao))
    (ha : blockOf a' = blockOf ao ∨ blockOf a' = some ((wr.alloc (.cells (madeCells #[.int .i64 0] m) 3)).alloc o).heap.size) : OutS w4 B a' c' (k + 1) m (fun j => if j = k then wr.heap.size else g j) := by
  have hr := World.rowIs_made wr (.int .i64 0) m 3
  have hnew : ∀ b, b ≤ wr.heap.size → some b ≠ blockOf ao → some b ≠ blockOf a' := fun b hb hn e => by
    rcases ha with ha | ha
    · exact hn (e.trans ha)
    · rw [ha] at e; injection e with e; simp at e; omega
  have hkn : some wr.heap.size ≠ blockOf ao := fun e => by have := (h.own.lt e.symm).2; omega
  have hb : ∀ b, b ≤ wr.heap.size → some b ≠ blockOf ao → w4.heap[b]? = (wr.alloc (.cells (madeCells #[.int .i64 0] m) 3)).heap[b]? := fun b hb hn => (hg.block b (by simp; omega) hn).trans (Below.heap_alloc _ _ _ (by simp; omega))
  refine ⟨by rw [← rowsV_snoc]; exact ho, fun j hj => ?_, fun j j' hj hj' e => ?_⟩
  · show w4.rowIs (if j = k then wr.heap.size else g j) _ _ _ ∧ B ≤ (if j = k then wr.heap.size else g j) ∧ some (if j = k then wr.heap.size else g j) ≠ _
    by_cases hjk : j = k
    · subst hjk
      rw [if_pos rfl]
      exact ⟨hr.of_block (hb _ (Nat.le_refl _) hkn), hB, hnew _ (Nat.le_refl _) hkn⟩
    · rw [if_neg hjk]
      obtain ⟨h1, h2, h3⟩ := h.rows j (by omega)
      have := h1.lt
      exact ⟨(h1.alloc _).of_block (hb _ (by omega) h3), h2, hnew _ (by omega) h3⟩
  · have e : (if j = k then wr.heap.size else g j) = (if j' = k then wr.heap.size else g j') := e
    by_cases hjk : j = k
    · by_cases hjk' : j' = k
      · omega
      · rw [if_pos hjk, if_neg hjk'] at e
        have := (h.rows j' (by omega)).1.lt
        omega
    · by_cases hjk' : j' = k
      · rw [if_neg hjk, if_pos hjk'] at e
        have := (h.rows j (by omega)).1.lt
        omega
      · rw [if_neg hjk, if_neg hjk'] at e
        exact h.inj j j' (by omega) (by omega) e

/-- N rows of m numbers, their slices in the cells of block Q. -/
def GridC (w : World) (base top Q N m : Nat) (F : Nat → Nat → Int) : Prop :=
  ∃ g : Nat → Nat, (base ≤ Q ∧ Q < top) ∧ (∀ k, k < N → w.cell? ⟨Q, k, none⟩ = some (.slice (some ⟨g k, 0, none⟩) m m) ∧ base ≤ g k ∧ g k < top ∧ g k ≠ Q ∧ w.rowIs (g k) 3 m (fun j => .int .i64 (F k j))) ∧ ∀ k k', k < N → k' < N → g k = g k' → k = k'
section
variable {w w' : World} {base top Q N m : Nat} {F : Nat → Nat → Int}
theorem GridC.mod {D : Nat → Prop} (h : GridC w base top Q N m F) (hm : Mod D w w') (hd : ∀ b, base ≤ b → b < top → ¬ D b) : GridC w' base top Q N m F := by
  obtain ⟨g, h0, h1, h3⟩ := h
  exact ⟨g, h0, fun k hk => let ⟨k1, k2, k3, k4, k5⟩ := h1 k hk; ⟨hm.cell k1 (hd _ h0.1 h0.2), k2, k3, k4, k5.of_block (hm.block _ k5.lt (hd _ k2 k3))⟩, h3⟩
theorem GridC.same {F' : Nat → Nat → Int} (h : GridC w base top Q N m F) (e : ∀ k j, k < N → j < m → F k j = F' k j) : GridC w base top Q N m F' := by
  obtain ⟨g, h0, h1, h3⟩ := h
  exact ⟨g, h0, fun k hk => ⟨(h1 k hk).1, (h1 k hk).2.1, (h1 k hk).2.2.1, (h1 k hk).2.2.2.1, (h1 k hk).2.2.2.2.congr fun j hj => by rw [e k j hk hj]⟩, h3⟩
theorem GridC.at (h : GridC w base top Q N m F) {k j : Nat} (hk : k < N) (hj : j < m) :
    ∃ g, w.cell? ⟨Q, k, Option.none⟩ = some (.slice (some ⟨g, 0, Option.none⟩) m m) ∧ base ≤ g ∧ g < top ∧ w.cell? ⟨g, j, Option.none⟩ = some (.int .i64 (F k j)) ∧ w.frozen? ⟨g, j, Option.none⟩ = false ∧
      ∀ v : Int, GridC (w.setCell ⟨g, j, Option.none⟩ (.int .i64 v)) base top Q N m (fun k' j' => if k' = k ∧ j' = j then v else F k' j') := by
  obtain ⟨g, h0, h1, h3⟩ := h
  obtain ⟨k1, k2, k3, k4, k5⟩ := h1 k hk
  refine ⟨g k, k1, k2, k3, k5.cell hj, k5.frozen j, fun v => ⟨g, h0, fun k' hk' => ?_, h3⟩⟩
  obtain ⟨e1, e2, e3, e4, e5⟩ := h1 k' hk'
  refine ⟨((Mod.refl (fun b => b = g k) w).set1 j _).cell e1 (fun e => k4 e.symm), e2, e3, e4, ?_⟩
  by_cases hkk : k' = k
  · subst hkk
    refine (e5.set j (.int .i64 v)).congr fun j' _ => ?_
    by_cases hjj : j' = j
    · subst hjj; simp
    · simp [hjj]
  · have hg : g k' ≠ g k := fun e => hkk (h3 k' k hk' hk e)
    refine (e5.setOther (by exact hg) _).congr fun j' _ => ?_
    simp [hkk]
theorem GridC.mixes (h : GridC w base top Q N m F) (xss : List (List Int)) (hn : N ≤ maxLen) (hm : m ≤ maxLen) (hl : xss.length = N) (hr : ∀ k, k < N → (rx xss k).length = m ∧ ∀ j, j < m → ix (rx xss k) j = F k j) : Mixes (fun b => base ≤ b) w (some ⟨Q, 0, Option.none⟩) xss := by
  obtain ⟨g, h0, h1, h3⟩ := h
  refine ⟨by omega, fun _ => ⟨Q, 0, rfl, h0.1, fun k hk => ?_⟩⟩
  rw [hl] at hk
  obtain ⟨k1, k2, k3, k4, k5⟩ := h1 k hk
  obtain ⟨r1, r2⟩ := hr k hk
  refine ⟨some ⟨g k, 0, Option.none⟩, m, by rw [Nat.zero_add, k1, r1], Ints.of_row k5 (by omega) (by omega) (fun j hj => by rw [r2 j (by omega)]) k2⟩
theorem OutS.grid {wr : World} {B : Nat} {q co k m : Nat} {g : Nat → Nat} (h : OutS wr B (some ⟨q, 0, none⟩) co k m g) (h0 : 0 < k) : GridC wr B wr.heap.size q k m (fun _ _ => 0) := by
  obtain ⟨q', e, hq, hq2, hcells, _⟩ := h.own.head (by intro e; have e2 := congrArg List.length e; rw [rowsV_length] at e2; have e3 : k = 0 := e2; omega)
  simp only [Option.some.injEq, Addr.mk.injEq, and_true] at e
  obtain rfl := e
  refine ⟨g, ⟨hq, hq2⟩, fun j hj => ?_, h.inj⟩
  obtain ⟨h1, h2, h3⟩ := h.rows j hj
  exact ⟨hcells j _ (rowsV_get hj), h2, h1.lt, fun e => h3 (by rw [e]; rfl), h1⟩
end

end Go.Proofs.Ytgoccfjmghhaoaa
