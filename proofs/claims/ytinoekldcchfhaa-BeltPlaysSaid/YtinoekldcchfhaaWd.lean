/-
  Walks over package belt.
-/
import Derived.Test.YtinoekldcchfhaaWc
set_option linter.unusedVariables false
set_option linter.unusedSimpArgs false
namespace Go.Proofs.Ytinoekldcchfhaa
open Go.RowKit

theorem ringLen : Try.prog.arrayLen 60 = 16 := by kernel_rfl
theorem ringElem : Try.prog.elem 60 = 35 := by kernel_rfl
theorem ringUnder : Try.prog.underlying 60 = some (.array (Try.prog.arrayLen 60) (Try.prog.elem 60)) := by kernel_rfl
theorem sizeMix (w : World) : (sizeOf 35).run Try.prog w = .ok 1 w := by kernel_rfl

theorem run_ring (bb n : Nat) (hn2 : n ≤ 16) (w : World) :
    (Instr.sliceAt 60 (.pointer (some ⟨bb, 0, Option.none⟩)) (some (.int .i64 0)) (some (.int .i64 n)) (some (.int .i64 n))).run Try.prog w = .ok (.slice (some ⟨bb, 0, Option.none⟩) n n) w := by
  have h := run_sliceAt_array_lhm (P := Try.prog) w 60 ⟨bb, 0, Option.none⟩ ringUnder .i64 .i64 .i64 0 n n (by omega) (by omega) (by omega) (by rw [ringLen]; omega)
  rw [h, ringElem, sizeMix]
  simp only [Result.andThen_ok, slicedAt, Int.toNat_natCast, Int.toNat_zero, Nat.zero_mul, Nat.sub_zero]
  split <;> rfl

set_option maxHeartbeats 400000 in
theorem slots_any (bb n : Nat) (w : World) (hn2 : n ≤ 16) (hc : w.cell? ⟨bb, 16, Option.none⟩ = some (.int .i64 n)) :
    Calls Try.prog 27 #[.pointer (some ⟨bb, 0, Option.none⟩)] w fun e w' => e = .returned (.slice (some ⟨bb, 0, Option.none⟩) n n) ∧ Drawn w w' := by
  have hr := fun W : World => run_ring bb n hn2 W
  go_enter Try.func27, Try.ntmps27
  go_wp2
  go_quiet (fail)
  go_wp2
  go_ret
  exact ⟨rfl, Drawn.mk _ _⟩

/-- The slots from 0 to k of the ring f hold mixes of m noughts. -/
def Empties (D : Nat → Prop) (w : World) (f : Nat → Value) (k m : Nat) : Prop := ∀ j, j < k → ∃ a c, f j = .slice a m c ∧ Ints D w a (List.replicate m 0)

theorem empties_step {bb T k m : Nat} {g : Nat → Value} {w wr : World} (t : TypeId) (hbb : bb < w.heap.size) (hm16 : m ≤ 16) (hmod : Mod (fun b => b = bb) w wr) (hg : wr.rowIs bb T 19 g) (hk : k < 19) (he : Empties (fun b => w.heap.size ≤ b) wr g k m) :
    let W := (wr.setCell ⟨bb, k, Option.none⟩ (.slice (some ⟨wr.heap.size, 0, Option.none⟩) m m)).alloc (.cells (madeCells #[.int .i64 0] m) t)
    Mod (fun b => b = bb) w W ∧ W.rowIs bb T 19 (fun j => if j = k then .slice (some ⟨wr.heap.size, 0, Option.none⟩) m m else g j) ∧
      Empties (fun b => w.heap.size ≤ b) W (fun j => if j = k then .slice (some ⟨wr.heap.size, 0, Option.none⟩) m m else g j) (k + 1) m := by
  intro W
  have hs : (wr.setCell ⟨bb, k, Option.none⟩ (.slice (some ⟨wr.heap.size, 0, Option.none⟩) m m)).heap.size = wr.heap.size := by simp [World.setCell]
  have hm2 : Mod (fun b => b = bb) wr W := ((Mod.refl (fun b => b = bb) wr).setCell (p := ⟨bb, k, Option.none⟩) (.inl rfl) _).alloc _
  refine ⟨hmod.trans hm2, (hg.set k _).alloc _, fun j hj => ?_⟩
  by_cases hjk : j = k
  · subst hjk
    refine ⟨_, m, if_pos rfl, ?_⟩
    have hr := World.rowIs_made (wr.setCell ⟨bb, j, Option.none⟩ (.slice (some ⟨wr.heap.size, 0, Option.none⟩) m m)) (.int .i64 0) m t
    rw [hs] at hr
    exact Ints.of_row hr (by simp) (by simp [maxLen]; omega) (fun i hi => by rw [ix_replicate (by simpa using hi)]) (by have := hmod.size; omega)
  · obtain ⟨a, c, h1, h2⟩ := he j (by omega)
    exact ⟨a, c, (if_neg hjk).trans h1, h2.mod hm2 fun b _ hb e => by omega⟩

set_option maxHeartbeats 400000 in
theorem beltEmpty_any (bb n m : Nat) (f : Nat → Value) (w : World) (hn2 : n ≤ 16) (hm : m ≤ 16) (hrow : w.rowIs bb 62 19 f) (h16 : f 16 = .int .i64 n) (h17 : f 17 = .int .i64 m) :
    Calls Try.prog 25 #[.pointer (some ⟨bb, 0, Option.none⟩)] w fun e w' => e = .returned (.tuple #[]) ∧ Mod (fun b => b = bb) w w' ∧
      ∃ g, w'.rowIs bb 62 19 g ∧ (∀ j, n ≤ j → g j = f j) ∧ Empties (fun b => w.heap.size ≤ b) w' g n m := by
  have hmk := run_make_row' (P := Try.prog) 35 3 (.int .i64 0) 8 Try.underlying35 infoInt rfl .i64 .i64 m (by omega) (by omega)
  have hc16 : w.cell? ⟨bb, 16, Option.none⟩ = some (.int .i64 n) := by rw [hrow.cell (by omega), h16]
  have hlt := hrow.lt
  have H := Lib.hid hrow
  have H16 := Lib.hid h16
  have H17 := Lib.hid h17
  clear hrow h16 h17
  go_enter Try.func25, Try.ntmps25
  go_wp2_with (go_at_call 27; refine (slots_any _ _ _ hn2 hc16).mono ?_; rintro e w1 ⟨rfl, nd, rfl⟩)
  go_loopw [8] (fun i wr => ∃ k : Nat, k ≤ n ∧ i = .int .i64 k ∧ Mod (fun b => b = bb) w wr ∧ ∃ g, wr.rowIs bb 62 19 g ∧ (∀ j, n ≤ j → g j = f j) ∧ (∀ j, k ≤ j → g j = f j) ∧ Empties (fun b => w.heap.size ≤ b) wr g k m) (fun i _ => n - (intOf i).toNat)
  case atStart => exact ⟨0, by omega, rfl, (Mod.refl _ _).drewN _, f, H.out, fun _ _ => rfl, fun _ _ => rfl, fun j hj => absurd hj (by omega)⟩
  case round =>
    obtain ⟨k, hk, rfl, hmod, g, hg, hgn, hgk, hemp⟩ := hrel
    by_cases hkn : k < n
    · have c17 : wr.cell? ⟨bb, 17, Option.none⟩ = some (.int .i64 m) := by rw [hg.cell (by omega), hgn 17 (by omega), H17.out]
      have ck : wr.cell? ⟨bb, k, Option.none⟩ = some (g k) := hg.cell (by omega)
      have fk : wr.frozen? ⟨bb, k, Option.none⟩ = false := hg.frozen k
      have hlt' := hg.lt
      have hg' := Lib.hid hg
      have hmod' := Lib.hid hmod
      have hgn' := Lib.hid hgn
      have hgk' := Lib.hid hgk
      have hemp' := Lib.hid hemp
      clear hg hmod hgn hgk hemp
      go_wp2
      obtain ⟨s1, s2, s3⟩ := empties_step 3 hlt hm hmod'.out hg'.out (by omega : k < 19) hemp'.out
      exact ⟨⟨k + 1, by omega, by go_num, s1, _, s2, fun j hj => (if_neg (by omega)).trans (hgn'.out j hj), fun j hj => (if_neg (by omega)).trans (hgk'.out j (by omega)), s3⟩, by simp [intOf]; omega⟩
    · obtain rfl : k = n := by omega
      have hgn' := Lib.hid hgn
      clear hgn hgk
      go_wp2
      go_end0
      exact ⟨rfl, hmod, g, hg, hgn'.out, hemp⟩

theorem valid_len {l : List Int} {m : Nat} (h : validL l m = true) : l.length = m := by simp [validL] at h; omega
/-- A belt in block bb: m materials, the slots sl (the first one first); what is in the slots lies in blocks of D. -/
structure BeltAt (D : Nat → Prop) (w : World) (bb m : Nat) (sl : List (List Int)) : Prop where
  one : 1 ≤ sl.length
  len : sl.length ≤ 16
  mats : 1 ≤ m
  mats16 : m ≤ 16
  rows : ∀ i, i < sl.length → validL (rx sl i) m = true
  away : ¬ D bb
  ring : ∃ f at_, at_ < sl.length ∧ w.rowIs bb 62 19 f ∧ f 16 = .int .i64 sl.length ∧ f 17 = .int .i64 m ∧ f 18 = .int .i64 (at_ : Nat) ∧
    ∀ i, i < sl.length → ∃ a c, f ((at_ + i) % sl.length) = .slice a (rx sl i).length c ∧ Ints D w a (rx sl i)

theorem BeltAt.lt {D : Nat → Prop} {w : World} {bb m : Nat} {sl : List (List Int)} (h : BeltAt D w bb m sl) : bb < w.heap.size := by
  obtain ⟨f, at_, _, hr, _⟩ := h.ring
  exact hr.lt

theorem BeltAt.rowLen {D : Nat → Prop} {w : World} {bb m : Nat} {sl : List (List Int)} (h : BeltAt D w bb m sl) {i : Nat} (hi : i < sl.length) : (rx sl i).length = m := valid_len (h.rows i hi)
theorem BeltAt.mod {D E : Nat → Prop} {w w' : World} {bb m : Nat} {sl : List (List Int)} (h : BeltAt D w bb m sl) (hm : Mod E w w') (hb : ¬ E bb) (hd : ∀ b, b < w.heap.size → D b → ¬ E b) : BeltAt D w' bb m sl := by
  obtain ⟨f, at_, h0, hr, h1, h2, h3, h4⟩ := h.ring
  refine ⟨h.one, h.len, h.mats, h.mats16, h.rows, h.away, f, at_, h0, hr.of_block (hm.block bb hr.lt hb), h1, h2, h3, fun i hi => ?_⟩
  obtain ⟨a, c, e, hx⟩ := h4 i hi
  exact ⟨a, c, e, hx.mod hm hd⟩

theorem BeltAt.mono {D D' : Nat → Prop} {w : World} {bb m : Nat} {sl : List (List Int)} (h : BeltAt D w bb m sl) (hd : ∀ b, b < w.heap.size → D b → D' b) (hb : ¬ D' bb) : BeltAt D' w bb m sl := by
  obtain ⟨f, at_, h0, hr, h1, h2, h3, h4⟩ := h.ring
  refine ⟨h.one, h.len, h.mats, h.mats16, h.rows, hb, f, at_, h0, hr, h1, h2, h3, fun i hi => ?_⟩
  obtain ⟨a, c, e, hx⟩ := h4 i hi
  exact ⟨a, c, e, hx.mono hd⟩

def noughts (n m : Nat) : List (List Int) := List.replicate n (List.replicate m 0)
theorem noughts_length (n m : Nat) : (noughts n m).length = n := by simp [noughts]
theorem valid_noughts {m : Nat} (h : m ≤ 16) : validL (List.replicate m 0) m = true := by
  have : (List.replicate m (0 : Int)).any badMass = false := by
    rw [List.any_eq_false]; intro x hx; rw [List.mem_replicate] at hx; rw [hx.2]; decide
  simp only [validL, List.length_replicate, faultL_ok (l := List.replicate m 0) (by simp; omega) this]
  simp
theorem rx_noughts {n m k : Nat} (h : k < n) : rx (noughts n m) k = List.replicate m 0 := by simp [rx, noughts, h]

/-- A ring whose slots are empty is a belt. -/
theorem BeltAt.of_empties {D : Nat → Prop} {w : World} {bb n m at_ : Nat} {f : Nat → Value} (hn : 1 ≤ n) (hn2 : n ≤ 16) (hm : 1 ≤ m) (hm2 : m ≤ 16) (hat : at_ < n) (hr : w.rowIs bb 62 19 f)
    (h16 : f 16 = .int .i64 n) (h17 : f 17 = .int .i64 m) (h18 : f 18 = .int .i64 at_) (he : Empties D w f n m) (hb : ¬ D bb) : BeltAt D w bb m (noughts n m) := by
  refine ⟨by rw [noughts_length]; exact hn, by rw [noughts_length]; exact hn2, hm, hm2, fun i hi => ?_, hb, f, at_, by rw [noughts_length]; exact hat, hr, by rw [noughts_length]; exact h16, h17, h18, fun i hi => ?_⟩
  · rw [noughts_length] at hi; rw [rx_noughts hi]; exact valid_noughts hm2
  · rw [noughts_length] at hi ⊢
    rw [rx_noughts hi, List.length_replicate]
    exact he _ (Nat.mod_lt _ (by omega))

set_option maxHeartbeats 400000 in
theorem beltNew_ok (n m : Nat) (w : World) (hn : 1 ≤ n) (hn2 : n ≤ 16) (hm : 1 ≤ m) (hm2 : m ≤ 16) :
    Calls Try.prog 10 #[.int .i64 n, .int .i64 m] w fun e w' => e = .returned (.tuple #[.pointer (some ⟨w.heap.size, 0, Option.none⟩), .int .i64 0]) ∧ Mod NoBlock w w' ∧ BeltAt (fun b => w.heap.size < b) w' w.heap.size m (noughts n m) := by
  have d1 : decide ((n : Int) < 1) = false := by simp; omega
  have d2 : decide ((m : Int) < 1) = false := by simp; omega
  go_enter Try.func10, Try.ntmps10
  go_wp2_with (go_at_call 25; refine (beltEmpty_any w.heap.size n m _ _ hn2 hm2 (rowIs_new w _ _) rfl rfl).mono ?_; rintro e w1 ⟨rfl, hmod, g, hg, hgn, hemp⟩)
  go_ret2
  refine ⟨rfl, ((Mod.refl NoBlock w).alloc _).step hmod (fun i hi e => by omega), BeltAt.of_empties (at_ := 0) hn hn2 hm hm2 (by omega) hg (hgn 16 (by omega)) (hgn 17 (by omega)) (hgn 18 (by omega)) ?_ (by omega)⟩
  intro j hj
  obtain ⟨a, c, h1, h2⟩ := hemp j hj
  exact ⟨a, c, h1, h2.mono fun b _ hb => by simp at hb; omega⟩

/-- New fails where a number is out of range. -/
def newBad (n m : Int) : Bool := decide (n < 1) || decide (16 < n) || decide (m < 1) || decide (16 < m)

set_option maxHeartbeats 400000 in
theorem beltNew_bad (n m : Int) (w : World) (h : n < 1 ∨ 16 < n ∨ m < 1 ∨ 16 < m) :
    Calls Try.prog 10 #[.int .i64 n, .int .i64 m] w fun e w' => e = .returned (.tuple #[.pointer Option.none, .int .i64 1]) ∧ w = w' := by
  by_cases h1 : n < 1
  · go_enter Try.func10, Try.ntmps10
    go_wp2
    go_ret2
    exact ⟨rfl, rfl⟩
  · have d1 : decide (n < 1) = false := by simpa using h1
    by_cases h2 : 16 < n
    · clear h
      go_enter Try.func10, Try.ntmps10
      go_wp2
      go_ret2
      exact ⟨rfl, rfl⟩
    · have d2 : decide (16 < n) = false := by simpa using h2
      by_cases h3 : m < 1
      · clear h
        go_enter Try.func10, Try.ntmps10
        go_wp2
        go_ret2
        exact ⟨rfl, rfl⟩
      · have d3 : decide (m < 1) = false := by simpa using h3
        have h4 : 16 < m := by omega
        clear h
        go_enter Try.func10, Try.ntmps10
        go_wp2
        go_ret2
        exact ⟨rfl, rfl⟩

end Go.Proofs.Ytinoekldcchfhaa
