/-
  grade.Of.
-/
import Derived.Test.YtoneoeckilaglaaGe
set_option linter.unusedVariables false
set_option linter.unusedSimpArgs false
namespace Go.Proofs.Ytoneoeckilaglaa
open Go.RowKit Go.Shelf
attribute [local go_sem] Oper.semAt_some

set_option maxRecDepth 100000 in
set_option maxHeartbeats 1000000 in
theorem reached_in (F : Fence) (n : Nat) (h : F.fn 23) (hro : F.round = none) (a : Option Addr) (len c : Nat) (P : Int) (w : World) :
    CallsIn F n Try.prog 23 #[.slice a len c, .int .i64 P] w fun e w' => e = .returned (.func (.func 29) #[] #[.pointer (some ⟨w.heap.size, 0, none⟩), .pointer (some ⟨w.heap.size + 1, 0, none⟩)]) ∧
      w' = (w.alloc (.cells #[.slice a len c] 22)).alloc (.cells #[.int .i64 P] 3) := by
  refine callsIn_of_wp Try.func23 rfl h ?_ hro
  simp only [Try.ntmps23, List.size_toArray, List.length_cons, List.length_nil, Nat.reduceAdd, Nat.reduceSub, Array.replicate_succ, Array.replicate_zero, List.push_toArray, List.append_toArray, List.nil_append, List.cons_append]
  gi_wp2
  go_ret
  exact ⟨rfl, rfl⟩

theorem classAt_skip {l : List (Int × Int)} {P : Int} : ∀ {j : Nat}, j ≤ l.length → (∀ i, i < j → ¬ (gx l i).1 ≤ P) → classAt l P 0 = classAt (l.drop j) P j := by
  intro j
  induction j with
  | zero => intro _ _; simp
  | succ j ih =>
    intro hj hn
    rw [ih (by omega) fun i hi => hn i (by omega), drop_gx (show j < l.length by omega)]
    show (if (gx l j).1 ≤ P then _ else _) = _
    rw [if_neg (hn j (by omega))]
    simp
theorem classAt_none {l : List (Int × Int)} {P : Int} (h : upR l P l.length = []) : classAt l P 0 = -1 := by
  rw [classAt_skip (Nat.le_refl _) fun i hi hc => by
    have : i ∈ upR l P l.length := by simp [upR]; exact ⟨hi, hc⟩
    rw [h] at this; simp at this]
  simp [classAt]
theorem classAt_some {l : List (Int × Int)} {P : Int} {k x : Nat} (hk : k ≤ l.length) (h : upR l P k = [x]) : classAt l P 0 = x := by
  have hm : ∀ i, i ∈ upR l P k ↔ i < k ∧ (gx l i).1 ≤ P := by intro i; simp [upR]
  obtain ⟨h1, h2⟩ := (hm x).1 (by rw [h]; simp)
  have hs : ∀ i, i < x → ¬ (gx l i).1 ≤ P := by
    intro i hi hc
    have := (hm i).2 ⟨by omega, hc⟩
    rw [h] at this; simp at this; omega
  rw [classAt_skip (by omega) hs, drop_gx (by omega)]
  show (if (gx l x).1 ≤ P then _ else _) = _
  rw [if_pos h2]

theorem cell_new_l (W : World) (v : Value) (t : TypeId) : (W.alloc (.cells #[v] t)).cell? ⟨W.heap.size, 0, none⟩ = some v ∧ (W.alloc (.cells #[v] t)).frozen? ⟨W.heap.size, 0, none⟩ = false := by
  have h := rowIs_new W #[v] t
  exact ⟨h.cell (by simp), h.frozen 0⟩
theorem lt_of_cell2 {w : World} {b o : Nat} {v : Value} (h : w.cell? ⟨b, o, none⟩ = some v) : b < w.heap.size := by
  obtain ⟨o, ho, _⟩ := cells_of_cell h
  exact (Array.getElem?_eq_some_iff.1 ho).1
/-- The iterator from a list of classes. -/
theorem reached_stops (F : Fence) (n : Nat) (h8 : F.fn 29) (hro : F.round = none) (hn : 1 ≤ n) (Bs Bp n₀ : Nat) (a : Option Addr) (c : Nat) (P : Int) (l : List (Int × Int)) (D : Nat → Prop) (w2 : World)
    (hx : Grs D w2 a l) (hne : l ≠ []) (e1 : Bs = w2.heap.size := by rfl) (e2 : Bp = w2.heap.size + 1 := by rfl) (e3 : n₀ = w2.heap.size + 2 := by rfl) :
    SeqStopsK F n Try.prog 29 #[.pointer (some ⟨Bs, 0, none⟩), .pointer (some ⟨Bp, 0, none⟩)] (fun x : Nat => #[Value.int .i64 x]) (Below n₀) (fun ys => ys = upR l P l.length) (fun pre => ∃ k, k ≤ l.length ∧ pre = upR l P k) l.length
      ((w2.alloc (.cells #[.slice a l.length c] 22)).alloc (.cells #[.int .i64 P] 3)) := by
  intro l' J Jx W hW hJ _ hY h0
  obtain ⟨b, off, rfl, _, hc⟩ := hx.2 hne
  subst e1; subst e2; subst e3
  have h63 := hx.open.1
  have hl1 : 0 < l.length := List.length_pos_iff.2 hne
  have hb : b < w2.heap.size := lt_of_cell2 (hc 0 hl1).1
  have B0 : Below w2.heap.size w2 W := (((Below.refl _ w2).alloc (Nat.le_refl _) _).alloc (by simp) _).trans (hW.mono (by simp; omega))
  have c0 := cell_new_l w2 (.slice (some ⟨b, off, none⟩) l.length c) 22
  have c1 := cell_new_l (w2.alloc (.cells #[.slice (some ⟨b, off, none⟩) l.length c] 22)) (.int .i64 P) 3
  rw [World.size_alloc] at c1
  refine reached1_in F n h8 hro hn l' w2.heap.size (w2.heap.size + 1) (w2.heap.size + 2) b off l.length c P l rfl h63 (by omega) (by omega) (by omega) J Jx W (by have := hW.size; simp at this; omega) hJ hY ?_ ?_ ?_ h0
  · exact (hW.cell (p := ⟨w2.heap.size, 0, none⟩) (by simp; omega)).trans (((Mod.refl NoBlock _).alloc _).cell c0.1 id)
  · exact (hW.cell (p := ⟨w2.heap.size + 1, 0, none⟩) (by simp)).trans c1.1
  · intro j hj
    exact ⟨(B0.cell (p := ⟨b, off + j * 2, none⟩) hb).trans (hc j hj).1, (B0.cell (p := ⟨b, off + j * 2 + 1, none⟩) hb).trans (hc j hj).2⟩

/-- What Of hands back lies in two cells. -/
theorem of_results (w : World) (b6 b7 : Nat) (x y : Int) (tm : Array Value) (h6 : tm[6]? = some (.pointer (some ⟨b6, 0, none⟩))) (h7 : tm[7]? = some (.pointer (some ⟨b7, 0, none⟩)))
    (c6 : w.cell? ⟨b6, 0, none⟩ = some (.int .i64 x)) (c7 : w.cell? ⟨b7, 0, none⟩ = some (.int .i64 y)) :
    (results Try.f15 tm).run Try.prog w = .ok (.tuple #[.int .i64 x, .int .i64 y]) w := by
  simp [results, Try.f15, go_sem, h6, h7, c6, c7]

theorem leave0 {F : Fence} {n : Nat} {P : Program} {fn : Func} {tmps : Array Value} {R : Ending → World → Prop} {w : World} {v : Value} (hr : (results fn tmps).run P w = .ok v w) (hR : R (.returned v) w) :
    LeavesInM F n P fn tmps R [] .returning w := ⟨v, hr, hR⟩

/-- Two cells written one after the other. -/
theorem two_cells {w : World} {b6 b7 : Nat} {u v x y : Value} (hne : b6 ≠ b7) (c6 : w.cell? ⟨b6, 0, none⟩ = some u) (c7 : w.cell? ⟨b7, 0, none⟩ = some v) :
    ((w.setCell ⟨b6, 0, none⟩ x).setCell ⟨b7, 0, none⟩ y).cell? ⟨b6, 0, none⟩ = some x ∧ ((w.setCell ⟨b6, 0, none⟩ x).setCell ⟨b7, 0, none⟩ y).cell? ⟨b7, 0, none⟩ = some y := by
  have e6 := World.cell?_setCell_same' w ⟨b6, 0, none⟩ x (by rw [c6]; rfl)
  have e7 : (w.setCell ⟨b6, 0, none⟩ x).cell? ⟨b7, 0, none⟩ = some v := (World.cell?_of_block (Below.heap_setCell _ _ _ _ (by simp; omega))).trans c7
  exact ⟨(World.cell?_of_block (Below.heap_setCell _ _ _ _ (by simp; omega))).trans e6, World.cell?_setCell_same' _ _ _ (by rw [e7]; rfl)⟩

set_option maxRecDepth 100000 in
set_option maxHeartbeats 2000000 in
theorem gradeOf_any (a : Option Addr) (c : Nat) (l : List (Int × Int)) (a2 : Option Addr) (c2 : Nat) (xs : List Int) (i : Int) (D D2 : Nat → Prop) (w : World) (hx : Grs D w a l) (hy : Ints D2 w a2 xs) :
    Calls Try.prog 15 #[.slice a l.length c, .slice a2 xs.length c2, .int .i64 i] w fun e w' => e = .returned (.tuple #[.int .i64 (ofG l xs i).1, .int .i64 (ofG l xs i).2]) ∧ Mod NoBlock w w' := by
  have o1 := (Mod.refl NoBlock w).alloc (.cells #[.int .i64 0] 3)
  have o2 := o1.alloc (.cells #[.int .i64 0] 23)
  have Hx := Lib.hid (hx.frame o2)
  have Hy := Lib.hid (hy.frame o2)
  have Hc := Lib.hid (gradeCheck_any a c l D _ (hx.frame o2))
  have hlx := hx.open.1
  have O2 := Lib.hid o2
  have r6 := (rowIs_new w #[.int .i64 0] 3).alloc (.cells #[.int .i64 0] 23)
  have r7 := rowIs_new (w.alloc (.cells #[.int .i64 0] 3)) #[.int .i64 0] 23
  rw [World.size_alloc] at r7
  have R6 := Lib.hid r6
  have R7 := Lib.hid r7
  clear hx hy o1 o2 r6 r7
  refine (callsIn_wide (n := 3)).1 ?_
  refine callsIn_of_wp_marks Try.func15 rfl trivial ?_ rfl
  simp only [Try.ntmps15, List.size_toArray, List.length_cons, List.length_nil, Nat.reduceAdd, Nat.reduceSub, Array.replicate_succ, Array.replicate_zero, List.push_toArray, List.append_toArray, List.nil_append, List.cons_append]
  by_cases h : chkG l = 0
  · have H := Lib.hid h
    by_cases hp : (purL xs i).2 = 0
    · have E := Lib.hid (show ofG l xs i = if classAt l (purL xs i).1 0 = -1 then (0, 25) else (classAt l (purL xs i).1 0, 0) by unfold ofG; rw [if_pos h, if_pos hp])
      obtain ⟨P, hPe⟩ : ∃ P, purL xs i = (P, 0) := ⟨(purL xs i).1, by rw [← hp]⟩
      rw [hPe] at E
      have HP := Lib.hid hPe
      clear h hp hPe
      gi_wp2
      refine ⟨trivial, ?_⟩
      refine (callsIn_wide.2 Hc.out).mono ?_; rintro e w1 ⟨rfl, m⟩; rw [H.out]
      have M1 := Lib.hid m
      have Hy1 := Lib.hid (Hy.out.frame m)
      clear m
      gi_wp2
      refine ⟨trivial, ?_⟩
      refine (callsIn_wide.2 (matPurity_any _ _ _ _ _ _ Hy1.out)).mono ?_; rintro e w2 ⟨rfl, m⟩; rw [HP.out]
      have M2 := Lib.hid (M1.out.trans m)
      have q6 := R6.out.of_block (M2.out.block _ R6.out.lt id)
      have q7 := R7.out.of_block (M2.out.block _ R7.out.lt id)
      have c6 : w2.cell? ⟨w.heap.size, 0, none⟩ = some (.int .i64 0) := q6.cell (by simp)
      have c7 : w2.cell? ⟨w.heap.size + 1, 0, none⟩ = some (.int .i64 0) := q7.cell (by simp)
      have f6 := q6.frozen 0
      have f7 := q7.frozen 0
      clear m q6 q7
      gi_wp2
      refine ⟨trivial, ?_⟩
      refine (reached_in _ _ trivial rfl _ _ _ _ _).mono ?_; rintro e w3 ⟨rfl, rfl⟩
      gi_wp2
      have hBw : Below w.heap.size w ((w2.alloc (.cells #[.slice a l.length c] 22)).alloc (.cells #[.int .i64 P] 3)) := (((O2.out.trans M2.out).alloc _).alloc _).below
      have hle : w.heap.size ≤ w2.heap.size := (O2.out.trans M2.out).size
      have hrel := reached_stops Fence.wide (3 - 1) trivial rfl (by omega) w2.heap.size (w2.heap.size + 1) (w2.heap.size + 2) a c P l D w2 (Hx.out.frame M2.out) (fun e => by have := (chkG_facts H.out).1; rw [e] at this; simp at this)
      refine wpIn_rangeFunc_ownF rfl (by omega) (gf := 29) (lb := #[.pointer (some ⟨w2.heap.size, 0, none⟩), .pointer (some ⟨w2.heap.size + 1, 0, none⟩)]) rfl trivial (enters_of Try.func29 (by kernel_rfl) rfl)
        hrel belowK_t (belowK_b (by simp)) (Below.refl _ _) (fun _ => rfl)
        (fun pre W => (pre = [] ∧ W.cell? ⟨w.heap.size, 0, none⟩ = some (.int .i64 0) ∧ W.cell? ⟨w.heap.size + 1, 0, none⟩ = some (.int .i64 0) ∧ W.frozen? ⟨w.heap.size, 0, none⟩ = false ∧ W.frozen? ⟨w.heap.size + 1, 0, none⟩ = false) ∧ Below w.heap.size w W)
        (fun c pre W => (c = .ret ∧ ∃ x : Nat, pre = [x] ∧ W.cell? ⟨w.heap.size, 0, none⟩ = some (.int .i64 x) ∧ W.cell? ⟨w.heap.size + 1, 0, none⟩ = some (.int .i64 0)) ∧ Below w.heap.size w W)
        (OwnFrom.and (Own.from (fun s A B row hs hg hr => ⟨hs.1, cell_kept hs.2.1 hg hr, cell_kept hs.2.2.1 hg hr, (frozen_kept hs.2.1 hg hr).trans hs.2.2.2.1, (frozen_kept hs.2.2.1 hg hr).trans hs.2.2.2.2⟩) _) (ownFrom_below (Nat.le_refl _) (by simp; omega)))
        (fun c => OwnFrom.and (Own.from (fun s A B row hs hg hr => by obtain ⟨h1, x, h2, h3, h4⟩ := hs; exact ⟨h1, x, h2, cell_kept h3 hg hr, cell_kept h4 hg hr⟩) _) (ownFrom_below (Nat.le_refl _) (by simp; omega)))
        ?start
        (fun x => { tmps := #[.slice a l.length c, .slice a2 xs.length c2, .int .i64 i, undef, undef, undef, .pointer (some ⟨w.heap.size, 0, none⟩), .pointer (some ⟨w.heap.size + 1, 0, none⟩), .int .i64 0, .int .i64 P, .int .i64 0, .int .i64 x, .slice a l.length c, .int .i64 0, .int .i64 0, .bool false, undef, .tuple #[.int .i64 P, .int .i64 0], .slice a2 xs.length c2, .int .i64 i, .tuple #[.int .i64 P, .int .i64 0], .int .i64 P, .int .i64 0, .int .i64 0, .bool false, undef, .slice a l.length c, .int .i64 P, .func (.func 29) #[] #[.pointer (some ⟨w2.heap.size, 0, none⟩), .pointer (some ⟨w2.heap.size + 1, 0, none⟩)], .int .i64 x, undef], defers := [] }) ?assign ?body ?done ?stop
      case start =>
        have m3 := ((Mod.refl NoBlock w2).alloc (.cells #[.slice a l.length c] 22)).alloc (.cells #[.int .i64 P] 3)
        have b6 := lt_of_cell2 c6
        have b7 := lt_of_cell2 c7
        exact ⟨⟨rfl, m3.cell c6 id, m3.cell c7 id, (m3.frozen b6 id).trans f6, (m3.frozen b7 id).trans f7⟩, hBw⟩
      case assign =>
        intro l x W K hK
        gi_wp2
        exact hK
      case body =>
        rintro l pre x W ⟨⟨rfl, hc6, hc7, hf6, hf7⟩, hB⟩ _
        gi_wp2
        obtain ⟨d6, d7⟩ := two_cells (x := .int .i64 x) (y := .int .i64 0) (show w.heap.size ≠ w.heap.size + 1 by omega) hc6 hc7
        exact ⟨(KeepsOthers.setCell _ _ _).trans (KeepsOthers.setCell _ _ _), ⟨rfl, x, rfl, d6, d7⟩, (hB.setCell (p := ⟨w.heap.size, 0, none⟩) (Nat.le_refl _) _).setCell (p := ⟨w.heap.size + 1, 0, none⟩) (Nat.le_add_right _ _) _⟩
      case done =>
        rintro D ys W hD rfl ⟨⟨hne, hc6, hc7, hf6, hf7⟩, hB⟩ hK
        gi_wp2
        obtain ⟨d6, d7⟩ := two_cells (x := .int .i64 0) (y := .int .i64 25) (show w.heap.size ≠ w.heap.size + 1 by omega) hc6 hc7
        have hK' := ((KeepsOthers.setCell W ⟨w.heap.size, 0, none⟩ (.int .i64 0)).trans (KeepsOthers.setCell _ ⟨w.heap.size + 1, 0, none⟩ (.int .i64 25))).same D _ hK rfl
        refine ⟨by simp, .inl ⟨_, _, rfl, run_takeDeferred hK', ?_⟩⟩
        have e6 := cell_kept d6 (grownBy_putObj' _ D (.deferred none)) (fun r e => by cases e; exact ⟨_, hK', rfl⟩)
        have e7 := cell_kept d7 (grownBy_putObj' _ D (.deferred none)) (fun r e => by cases e; exact ⟨_, hK', rfl⟩)
        refine leave0 (of_results _ _ _ _ _ _ rfl rfl e6 e7) ⟨by rw [E.out, if_pos (classAt_none hne)], ?_⟩
        exact Mod.of_below (((hB.setCell (p := ⟨w.heap.size, 0, none⟩) (Nat.le_refl _) _).setCell (p := ⟨w.heap.size + 1, 0, none⟩) (Nat.le_add_right _ _) _).trans (belowK_b (w := w) (Nat.le_refl _) _ D _ _ (by simp at hD; omega) hK' rfl rfl))
      case stop =>
        rintro D c pre W hD ⟨k, hk, rfl⟩ ⟨⟨rfl, x, hx, hc6, hc7⟩, hB⟩ hK
        gi_wp2
        refine ⟨by simp, .inl ⟨_, _, rfl, run_takeDeferred hK, ?_⟩⟩
        have e6 := cell_kept hc6 (grownBy_putObj' _ D (.deferred none)) (fun r e => by cases e; exact ⟨_, hK, rfl⟩)
        have e7 := cell_kept hc7 (grownBy_putObj' _ D (.deferred none)) (fun r e => by cases e; exact ⟨_, hK, rfl⟩)
        have hcx := classAt_some hk hx
        refine leave0 (of_results _ _ _ _ _ _ rfl rfl e6 e7) ⟨by rw [E.out, hcx, if_neg (by omega)], ?_⟩
        exact Mod.of_below (hB.trans (belowK_b (w := w) (Nat.le_refl _) W D _ _ (by simp at hD; omega) hK rfl rfl))
    · have E := Lib.hid (show ofG l xs i = (0, (purL xs i).2) by unfold ofG; rw [if_pos h, if_neg hp])
      have hne : ((purL xs i).2 != 0) = true := by simpa using hp
      clear h hp
      gi_wp2
      refine ⟨trivial, ?_⟩
      refine (callsIn_wide.2 Hc.out).mono ?_; rintro e w1 ⟨rfl, m⟩; rw [H.out]
      have M1 := Lib.hid m
      have Hy1 := Lib.hid (Hy.out.frame m)
      clear m
      gi_wp2
      refine ⟨trivial, ?_⟩
      refine (callsIn_wide.2 (matPurity_any _ _ _ _ _ _ Hy1.out)).mono ?_; rintro e w2 ⟨rfl, m⟩
      have M2 := Lib.hid (M1.out.trans m)
      have q6 := R6.out.of_block (M2.out.block _ R6.out.lt id)
      have q7 := R7.out.of_block (M2.out.block _ R7.out.lt id)
      have c6 : w2.cell? ⟨w.heap.size, 0, none⟩ = some (.int .i64 0) := q6.cell (by simp)
      have c7 : w2.cell? ⟨w.heap.size + 1, 0, none⟩ = some (.int .i64 0) := q7.cell (by simp)
      have f6 := q6.frozen 0
      have f7 := q7.frozen 0
      clear m q6 q7
      gi_wp2
      obtain ⟨d6, d7⟩ := two_cells (x := .int .i64 0) (y := .int .i64 (purL xs i).2) (show w.heap.size ≠ w.heap.size + 1 by omega) c6 c7
      refine leave0 (of_results _ _ _ _ _ _ rfl rfl d6 d7) ⟨by rw [E.out], ?_⟩
      exact ((O2.out.trans M2.out).setCell (.inr (Nat.le_refl _)) _).setCell (.inr (Nat.le_add_right _ _)) _
  · have hne : (chkG l != 0) = true := by simpa using h
    have E := Lib.hid (show ofG l xs i = (0, chkG l) by unfold ofG; rw [if_neg h])
    clear h
    gi_wp2
    refine ⟨trivial, ?_⟩
    refine (callsIn_wide.2 Hc.out).mono ?_; rintro e w1 ⟨rfl, m⟩
    have M := Lib.hid (O2.out.trans m)
    have q6 := R6.out.of_block (m.block _ R6.out.lt id)
    have q7 := R7.out.of_block (m.block _ R7.out.lt id)
    have c6 : w1.cell? ⟨w.heap.size, 0, none⟩ = some (.int .i64 0) := q6.cell (by simp)
    have c7 : w1.cell? ⟨w.heap.size + 1, 0, none⟩ = some (.int .i64 0) := q7.cell (by simp)
    have f6 := q6.frozen 0
    have f7 := q7.frozen 0
    clear m q6 q7
    gi_wp2
    obtain ⟨d6, d7⟩ := two_cells (x := .int .i64 0) (y := .int .i64 (chkG l)) (show w.heap.size ≠ w.heap.size + 1 by omega) c6 c7
    refine leave0 (of_results _ _ _ _ _ _ rfl rfl d6 d7) ⟨by rw [E.out], ?_⟩
    exact (M.out.setCell (.inr (Nat.le_refl _)) _).setCell (.inr (Nat.le_add_right _ _)) _

end Go.Proofs.Ytoneoeckilaglaa
