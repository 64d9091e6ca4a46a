/-
  material.combine, Add, Sub.
-/
import Derived.Test.YtghciackhkimoaaVi
import Derived.StillTailTactics
set_option linter.unusedVariables false
set_option linter.unusedSimpArgs false
namespace Go.Proofs.Ytghciackhkimoaa
open Go.RowKit

theorem checkL_two (a b : List Int) : checkL [a, b] = if faultL a = 0 then faultL b else faultL a := by
  unfold checkL
  rw [checkL_one]

/-- check of one mix in a new list. -/
theorem check_n1 (a : Option Addr) (n c : Nat) (xs : List Int) (D : Nat → Prop) (w : World) (hn : xs.length = n) (hx : Ints D w a xs) (t : TypeId) :
    Calls Try.prog 39 #[.slice (some ⟨w.heap.size, 0, Option.none⟩) 1 1] (w.alloc (.cells #[.slice a n c] t)) fun e w' => e = .returned (.int .i64 (faultL xs)) ∧ w.alloc (.cells #[.slice a n c] t) = w' := by
  subst hn
  have := check_any _ 1 [xs] _ _ (Mixes.one hx c t)
  rw [checkL_one] at this
  exact this

def diffsL (a b : List Int) : List Int := List.zipWith (· - ·) a b
/-- The difference of two mixes, or the error. -/
def subL (a b : List Int) : List Int × Int := if bothL a b ≠ 0 then ([], bothL a b) else if (diffsL a b).any (fun n => decide (n < 0)) then ([], 1) else (diffsL a b, 0)
theorem diffsL_length {a b : List Int} (h : a.length = b.length) : (diffsL a b).length = a.length := by simp [diffsL, h]
theorem ix_diffsL {a b : List Int} {k : Nat} (h : a.length = b.length) (hk : k < a.length) : ix (diffsL a b) k = ix a k - ix b k := by
  have h1 : k < (diffsL a b).length := by rw [diffsL_length h]; exact hk
  rw [ix_eq h1, ix_eq hk, ix_eq (by omega)]; simp [diffsL]
theorem both_ok {a b : List Int} (h1 : faultL a = 0) (h2 : faultL b = 0) (h : a.length = b.length) : bothL a b = 0 := by
  unfold bothL; rw [if_neg (by simpa using h1), if_neg (by simpa using h2), if_neg (by simpa using h)]
theorem addL_ok {a b : List Int} (h1 : faultL a = 0) (h2 : faultL b = 0) (h : a.length = b.length) : addL a b = if faultL (sumsL a b) = 0 then (sumsL a b, 0) else ([], 2) := by
  obtain ⟨l1, g1⟩ := ok_of_fault h1
  obtain ⟨l2, g2⟩ := ok_of_fault h2
  have hlen := sumsL_length h
  have he : (sumsL a b).any badMass = (sumsL a b).any over := by
    rw [Bool.eq_iff_iff, List.any_eq_true, List.any_eq_true]
    constructor
    · rintro ⟨x, hx, hb⟩
      obtain ⟨k, hk, rfl⟩ := List.mem_iff_getElem.1 hx
      refine ⟨_, hx, ?_⟩
      rw [← ix_eq hk, ix_sumsL h (by omega)] at hb ⊢
      have := g1 k (by omega)
      have := g2 k (by omega)
      simp [badMass] at hb
      simp [over]; omega
    · rintro ⟨x, hx, hb⟩
      exact ⟨x, hx, by simp [over] at hb; simp [badMass, hb]⟩
  unfold addL
  rw [if_neg (by simpa using both_ok h1 h2 h), ← he]
  cases hc : (sumsL a b).any badMass
  · rw [faultL_ok (by omega) hc]; rfl
  · rw [faultL_bad (by omega) hc]; rfl
theorem subL_ok {a b : List Int} (h1 : faultL a = 0) (h2 : faultL b = 0) (h : a.length = b.length) : subL a b = if faultL (diffsL a b) = 0 then (diffsL a b, 0) else ([], 1) := by
  obtain ⟨l1, g1⟩ := ok_of_fault h1
  obtain ⟨l2, g2⟩ := ok_of_fault h2
  have hlen := diffsL_length h
  have he : (diffsL a b).any badMass = (diffsL a b).any (fun n => decide (n < 0)) := by
    rw [Bool.eq_iff_iff, List.any_eq_true, List.any_eq_true]
    constructor
    · rintro ⟨x, hx, hb⟩
      obtain ⟨k, hk, rfl⟩ := List.mem_iff_getElem.1 hx
      refine ⟨_, hx, ?_⟩
      rw [← ix_eq hk, ix_diffsL h (by omega)] at hb ⊢
      have := g1 k (by omega)
      have := g2 k (by omega)
      simp [badMass] at hb
      simp; omega
    · rintro ⟨x, hx, hb⟩
      exact ⟨x, hx, by simp at hb; simp [badMass, hb]⟩
  unfold subL
  rw [if_neg (by simpa using both_ok h1 h2 h), ← he]
  cases hc : (diffsL a b).any badMass
  · rw [faultL_ok (by omega) hc]; rfl
  · rw [faultL_bad (by omega) hc]; rfl

set_option maxHeartbeats 400000 in
theorem cloAdd_any (x y : Int) (w : World) (h : -9223372036854775808 ≤ x + y ∧ x + y ≤ 9223372036854775807) : Calls Try.prog 36 #[.int .i64 x, .int .i64 y] w fun e w' => e = .returned (.int .i64 (x + y)) ∧ w = w' := by
  have e1 : IntKind.i64.wrap (x + y) = x + y := IntWalk.i64_in _ (by omega)
  clear h
  go_enter Try.func36, Try.ntmps36
  go_wp2
  go_ret
  exact ⟨rfl, rfl⟩

set_option maxRecDepth 100000 in
set_option maxHeartbeats 1600000 in
theorem combineAdd_any (a1 a2 : Option Addr) (c1 c2 : Nat) (xs ys : List Int) (D1 D2 : Nat → Prop) (w : World) (hx : Ints D1 w a1 xs) (hy : Ints D2 w a2 ys) :
    Calls Try.prog 35 #[.slice a1 xs.length c1, .slice a2 ys.length c2, .func (.func 36) #[] #[], .int .i64 2] w (ListErr (addL xs ys) w) := by
  have Hx := Lib.hid (hx.mono (D' := fun _ => True) fun _ _ _ => trivial)
  have Hy := Lib.hid (hy.mono (D' := fun _ => True) fun _ _ _ => trivial)
  have hlx := hx.open.1
  have hly := hy.open.1
  clear hx hy
  have hchk := checkL_two xs ys
  by_cases hf : faultL xs = 0
  · rw [if_pos hf] at hchk
    by_cases hg : faultL ys = 0
    · rw [hg] at hchk
      have Hchk := Lib.hid hchk
      by_cases hl : xs.length = ys.length
      · have hb : bothL xs ys = 0 := by unfold bothL; rw [if_neg (by simpa using hf), if_neg (by simpa using hg), if_neg (by simpa using hl)]
        obtain ⟨l1, g1⟩ := ok_of_fault hf
        obtain ⟨l2, g2⟩ := ok_of_fault hg
        obtain ⟨_, b1, o1, hb1, hc1⟩ := Hx.out.open
        obtain ⟨_, b2, o2, hb2, hc2⟩ := Hy.out.open
        have HL := Lib.hid (addL_ok hf hg hl)
        have Hl := Lib.hid hl
        have hn2 : ((xs.length : Int) != (ys.length : Int)) = false := by simp [hl]
        have hle : xs.length ≤ ys.length := by omega
        have Hg1 := Lib.hid g1
        have Hg2 := Lib.hid g2
        have Hc1 := Lib.hid hc1
        have Hc2 := Lib.hid hc2
        have Hb1 := Lib.hid hb1
        have Hb2 := Lib.hid hb2
        have hmk := run_make_row' (P := Try.prog) 30 3 (.int .i64 0) 8 Try.underlying30 infoInt rfl .i64 .i64 xs.length (by omega) (by omega)
        clear hf hg hl hb g1 g2 hc1 hc2 hb1 hb2 hchk
        go_enter Try.func35, Try.ntmps35
        go_wp2_with (go_at_call 39; refine (check_any _ _ [xs, ys] _ _ (Mixes.two Hx.out Hy.out _ _ _)).mono ?_; rintro e w9 ⟨rfl, rfl⟩; rw [Hchk.out])
        have hrow0 := madeInts (w.alloc (.cells #[.slice a1 xs.length c1, .slice a2 ys.length c2] 30)) xs.length 3
        rw [World.size_alloc] at hrow0
        have Hrow0 := Lib.hid hrow0
        have G := Lib.hid (show ∃ G, w.heap.size + 1 = G from ⟨_, rfl⟩)
        clear hrow0
        go_loopw [30] (fun i wr => ∃ (k : Nat) (f : Nat → Value), k ≤ xs.length ∧ i = .int .i64 k ∧ Mod NoBlock w wr ∧ wr.rowIs (w.heap.size + 1) 3 xs.length f ∧ ∀ j, j < k → f j = .int .i64 (ix xs j + ix ys j)) (fun i _ => xs.length - (intOf i).toNat)
        case atStart => exact ⟨0, fun _ => .int .i64 0, by omega, rfl, ((Mod.refl _ _).alloc _).alloc _, Hrow0.out, fun j hj => absurd hj (by omega)⟩
        case round =>
          obtain ⟨k, f, hk, rfl, hm, hrow, hf⟩ := hrel
          have Hm := Lib.hid hm
          have Hrow := Lib.hid hrow
          have Hf := Lib.hid hf
          clear hm hrow hf
          by_cases hlt : k < xs.length
          · have h1 := Hm.out.cell (Hc1.out k hlt) (fun h => h)
            have h2 := Hm.out.cell (Hc2.out k (by omega)) (fun h => h)
            obtain rfl := Hb1.out (by intro h; simp [h] at hlt)
            obtain rfl := Hb2.out (by intro h; rw [h] at hle; simp at hle; simp [hle] at hlt)
            obtain ⟨x0, x1⟩ := Hg1.out k hlt
            obtain ⟨y0, y1⟩ := Hg2.out k (by omega)
            generalize hgx : ix xs k = x at h1 x0 x1
            generalize hgy : ix ys k = y at h2 y0 y1
            have Hgx := Lib.hid hgx
            have Hgy := Lib.hid hgy
            have Hxy := Lib.hid (show -9223372036854775808 ≤ x + y ∧ x + y ≤ 9223372036854775807 by omega)
            have q1 : (0 : Int) ≤ (k : Int) := by omega
            have q2 : (k : Int) < (xs.length : Int) := by omega
            have q3 : (k : Int) < (ys.length : Int) := by omega
            have hst := Hrow.out.cell hlt
            have hfz := Hrow.out.frozen k
            clear hgx hgy x0 x1 y0 y1
            go_wp2
            go_still_tail 13, (by kernel_rfl)
            still_call ((cloAdd_any x y _ Hxy.out).mono fun e w' ⟨h1, h2⟩ => ⟨h1, h2.symm⟩)
            repeat still_step
            refine wpStill_nil ?_
            change wpList _ _ _ _ _ wr.drew
            go_wp2
            refine ⟨⟨k + 1, _, by omega, by go_num, (Hm.out.setCell (p := ⟨w.heap.size + 1, k, Option.none⟩) (.inr (Nat.le_succ _)) _).drew, (Hrow.out.set k _).drew, fun j hj => ?_⟩, by simp [intOf]; omega⟩
            by_cases hjk : j = k
            · subst hjk
              show (if j = j then _ else f j) = _
              rw [if_pos rfl, Hgx.out, Hgy.out]
            · show (if j = k then _ else f j) = _
              rw [if_neg hjk]
              exact Hf.out j (by omega)
          · obtain rfl : k = xs.length := by omega
            have hz := sumsL_length Hl.out
            have hI : Ints (fun b => w.heap.size ≤ b) wr (some ⟨w.heap.size + 1, 0, Option.none⟩) (sumsL xs ys) :=
              Ints.of_row Hrow.out (by omega) (by simp only [maxLen]; omega) (fun j hj => by rw [Hf.out j (by omega), ix_sumsL Hl.out (by omega)]) (Nat.le_succ _)
            have HI := Lib.hid hI
            have Hone := Lib.hid (checkL_one (sumsL xs ys))
            have Hz := Lib.hid hz
            clear hz hI
            have hcase := HL.out
            have hc9 := check_n1 (some ⟨w.heap.size + 1, 0, Option.none⟩) xs.length xs.length (sumsL xs ys) (fun b => w.heap.size ≤ b) wr Hz.out HI.out
            have Hc9 := Lib.hid hc9
            clear hc9
            by_cases hfz : faultL (sumsL xs ys) = 0
            · rw [if_pos hfz] at hcase
              have HC := Lib.hid hcase
              have Hfz := Lib.hid hfz
              clear hcase hfz
              go_wp2_with (go_at_call 39; refine (Hc9.out _).mono ?_; rintro e w9 ⟨rfl, rfl⟩; rw [Hfz.out])
              go_ret2
              rw [HC.out]
              exact ⟨some ⟨w.heap.size + 1, 0, Option.none⟩, xs.length, by rw [Hz.out]; rfl, Hm.out.alloc _, HI.out.alloc _⟩
            · rw [if_neg hfz] at hcase
              have HC := Lib.hid hcase
              have hne : (faultL (sumsL xs ys) != 0) = true := by simpa using hfz
              clear hcase hfz
              go_wp2_with (go_at_call 39; refine (Hc9.out _).mono ?_; rintro e w9 ⟨rfl, rfl⟩)
              go_ret2
              rw [HC.out]
              exact ⟨Option.none, 0, rfl, Hm.out.alloc _, Ints.nil _ _ _⟩
      · have HC := Lib.hid (show addL xs ys = ([], 18) by
          have hb : bothL xs ys = 18 := by unfold bothL; rw [if_neg (by simpa using hf), if_neg (by simpa using hg), if_pos hl]
          unfold addL; rw [if_pos (by rw [hb]; decide), hb])
        have hn2 : ((xs.length : Int) != (ys.length : Int)) = true := by simp; omega
        clear hf hg hl hchk
        go_enter Try.func35, Try.ntmps35
        go_wp2_with (go_at_call 39; refine (check_any _ _ [xs, ys] _ _ (Mixes.two Hx.out Hy.out _ _ _)).mono ?_; rintro e w9 ⟨rfl, rfl⟩; rw [Hchk.out])
        go_ret2
        rw [HC.out]
        exact ⟨Option.none, 0, rfl, (Mod.refl _ _).alloc _, Ints.nil _ _ _⟩
    · have HC := Lib.hid (show addL xs ys = ([], faultL ys) by
        have hb : bothL xs ys = faultL ys := by unfold bothL; rw [if_neg (by simpa using hf), if_pos hg]
        unfold addL; rw [if_pos (by rw [hb]; exact hg), hb])
      have Hchk := Lib.hid hchk
      have hne : (faultL ys != 0) = true := by simpa using hg
      clear hf hg hchk
      go_enter Try.func35, Try.ntmps35
      go_wp2_with (go_at_call 39; refine (check_any _ _ [xs, ys] _ _ (Mixes.two Hx.out Hy.out _ _ _)).mono ?_; rintro e w9 ⟨rfl, rfl⟩; rw [Hchk.out])
      go_ret2
      rw [HC.out]
      exact ⟨Option.none, 0, rfl, (Mod.refl _ _).alloc _, Ints.nil _ _ _⟩
  · rw [if_neg hf] at hchk
    have HC := Lib.hid (show addL xs ys = ([], faultL xs) by
      have hb : bothL xs ys = faultL xs := by unfold bothL; rw [if_pos hf]
      unfold addL; rw [if_pos (by rw [hb]; exact hf), hb])
    have Hchk := Lib.hid hchk
    have hne : (faultL xs != 0) = true := by simpa using hf
    clear hf hchk
    go_enter Try.func35, Try.ntmps35
    go_wp2_with (go_at_call 39; refine (check_any _ _ [xs, ys] _ _ (Mixes.two Hx.out Hy.out _ _ _)).mono ?_; rintro e w9 ⟨rfl, rfl⟩; rw [Hchk.out])
    go_ret2
    rw [HC.out]
    exact ⟨Option.none, 0, rfl, (Mod.refl _ _).alloc _, Ints.nil _ _ _⟩

theorem matAdd_any (a1 a2 : Option Addr) (c1 c2 : Nat) (xs ys : List Int) (D1 D2 : Nat → Prop) (w : World) (hx : Ints D1 w a1 xs) (hy : Ints D2 w a2 ys) :
    Calls Try.prog 15 #[.slice a1 xs.length c1, .slice a2 ys.length c2] w (ListErr (addL xs ys) w) := by
  have Hx := Lib.hid hx
  have Hy := Lib.hid hy
  clear hx hy
  go_enter Try.func15, Try.ntmps15
  go_wp2_with (go_at_call 35; refine (combineAdd_any _ _ _ _ _ _ _ _ _ Hx.out Hy.out).mono ?_; rintro e w9 ⟨a', c', rfl, h1, h2⟩)
  have H1 := Lib.hid h1
  have H2 := Lib.hid h2
  clear h1 h2
  go_wp2
  go_ret2
  exact ⟨a', c', rfl, H1.out, H2.out⟩

set_option maxHeartbeats 400000 in
theorem cloSub_any (x y : Int) (w : World) (h : -9223372036854775808 ≤ x - y ∧ x - y ≤ 9223372036854775807) : Calls Try.prog 38 #[.int .i64 x, .int .i64 y] w fun e w' => e = .returned (.int .i64 (x - y)) ∧ w = w' := by
  have e1 : IntKind.i64.wrap (x - y) = x - y := IntWalk.i64_in _ (by omega)
  clear h
  go_enter Try.func38, Try.ntmps38
  go_wp2
  go_ret
  exact ⟨rfl, rfl⟩

set_option maxRecDepth 100000 in
set_option maxHeartbeats 1600000 in
theorem combineSub_any (a1 a2 : Option Addr) (c1 c2 : Nat) (xs ys : List Int) (D1 D2 : Nat → Prop) (w : World) (hx : Ints D1 w a1 xs) (hy : Ints D2 w a2 ys) :
    Calls Try.prog 35 #[.slice a1 xs.length c1, .slice a2 ys.length c2, .func (.func 38) #[] #[], .int .i64 1] w (ListErr (subL xs ys) w) := by
  have Hx := Lib.hid (hx.mono (D' := fun _ => True) fun _ _ _ => trivial)
  have Hy := Lib.hid (hy.mono (D' := fun _ => True) fun _ _ _ => trivial)
  have hlx := hx.open.1
  have hly := hy.open.1
  clear hx hy
  have hchk := checkL_two xs ys
  by_cases hf : faultL xs = 0
  · rw [if_pos hf] at hchk
    by_cases hg : faultL ys = 0
    · rw [hg] at hchk
      have Hchk := Lib.hid hchk
      by_cases hl : xs.length = ys.length
      · have hb : bothL xs ys = 0 := by unfold bothL; rw [if_neg (by simpa using hf), if_neg (by simpa using hg), if_neg (by simpa using hl)]
        obtain ⟨l1, g1⟩ := ok_of_fault hf
        obtain ⟨l2, g2⟩ := ok_of_fault hg
        obtain ⟨_, b1, o1, hb1, hc1⟩ := Hx.out.open
        obtain ⟨_, b2, o2, hb2, hc2⟩ := Hy.out.open
        have HL := Lib.hid (subL_ok hf hg hl)
        have Hl := Lib.hid hl
        have hn2 : ((xs.length : Int) != (ys.length : Int)) = false := by simp [hl]
        have hle : xs.length ≤ ys.length := by omega
        have Hg1 := Lib.hid g1
        have Hg2 := Lib.hid g2
        have Hc1 := Lib.hid hc1
        have Hc2 := Lib.hid hc2
        have Hb1 := Lib.hid hb1
        have Hb2 := Lib.hid hb2
        have hmk := run_make_row' (P := Try.prog) 30 3 (.int .i64 0) 8 Try.underlying30 infoInt rfl .i64 .i64 xs.length (by omega) (by omega)
        clear hf hg hl hb g1 g2 hc1 hc2 hb1 hb2 hchk
        go_enter Try.func35, Try.ntmps35
        go_wp2_with (go_at_call 39; refine (check_any _ _ [xs, ys] _ _ (Mixes.two Hx.out Hy.out _ _ _)).mono ?_; rintro e w9 ⟨rfl, rfl⟩; rw [Hchk.out])
        have hrow0 := madeInts (w.alloc (.cells #[.slice a1 xs.length c1, .slice a2 ys.length c2] 30)) xs.length 3
        rw [World.size_alloc] at hrow0
        have Hrow0 := Lib.hid hrow0
        have G := Lib.hid (show ∃ G, w.heap.size + 1 = G from ⟨_, rfl⟩)
        clear hrow0
        go_loopw [30] (fun i wr => ∃ (k : Nat) (f : Nat → Value), k ≤ xs.length ∧ i = .int .i64 k ∧ Mod NoBlock w wr ∧ wr.rowIs (w.heap.size + 1) 3 xs.length f ∧ ∀ j, j < k → f j = .int .i64 (ix xs j - ix ys j)) (fun i _ => xs.length - (intOf i).toNat)
        case atStart => exact ⟨0, fun _ => .int .i64 0, by omega, rfl, ((Mod.refl _ _).alloc _).alloc _, Hrow0.out, fun j hj => absurd hj (by omega)⟩
        case round =>
          obtain ⟨k, f, hk, rfl, hm, hrow, hf⟩ := hrel
          have Hm := Lib.hid hm
          have Hrow := Lib.hid hrow
          have Hf := Lib.hid hf
          clear hm hrow hf
          by_cases hlt : k < xs.length
          · have h1 := Hm.out.cell (Hc1.out k hlt) (fun h => h)
            have h2 := Hm.out.cell (Hc2.out k (by omega)) (fun h => h)
            obtain rfl := Hb1.out (by intro h; simp [h] at hlt)
            obtain rfl := Hb2.out (by intro h; rw [h] at hle; simp at hle; simp [hle] at hlt)
            obtain ⟨x0, x1⟩ := Hg1.out k hlt
            obtain ⟨y0, y1⟩ := Hg2.out k (by omega)
            generalize hgx : ix xs k = x at h1 x0 x1
            generalize hgy : ix ys k = y at h2 y0 y1
            have Hgx := Lib.hid hgx
            have Hgy := Lib.hid hgy
            have Hxy := Lib.hid (show -9223372036854775808 ≤ x - y ∧ x - y ≤ 9223372036854775807 by omega)
            have q1 : (0 : Int) ≤ (k : Int) := by omega
            have q2 : (k : Int) < (xs.length : Int) := by omega
            have q3 : (k : Int) < (ys.length : Int) := by omega
            have hst := Hrow.out.cell hlt
            have hfz := Hrow.out.frozen k
            clear hgx hgy x0 x1 y0 y1
            go_wp2
            go_still_tail 13, (by kernel_rfl)
            still_call ((cloSub_any x y _ Hxy.out).mono fun e w' ⟨h1, h2⟩ => ⟨h1, h2.symm⟩)
            repeat still_step
            refine wpStill_nil ?_
            change wpList _ _ _ _ _ wr.drew
            go_wp2
            refine ⟨⟨k + 1, _, by omega, by go_num, (Hm.out.setCell (p := ⟨w.heap.size + 1, k, Option.none⟩) (.inr (Nat.le_succ _)) _).drew, (Hrow.out.set k _).drew, fun j hj => ?_⟩, by simp [intOf]; omega⟩
            by_cases hjk : j = k
            · subst hjk
              show (if j = j then _ else f j) = _
              rw [if_pos rfl, Hgx.out, Hgy.out]
            · show (if j = k then _ else f j) = _
              rw [if_neg hjk]
              exact Hf.out j (by omega)
          · obtain rfl : k = xs.length := by omega
            have hz := diffsL_length Hl.out
            have hI : Ints (fun b => w.heap.size ≤ b) wr (some ⟨w.heap.size + 1, 0, Option.none⟩) (diffsL xs ys) :=
              Ints.of_row Hrow.out (by omega) (by simp only [maxLen]; omega) (fun j hj => by rw [Hf.out j (by omega), ix_diffsL Hl.out (by omega)]) (Nat.le_succ _)
            have HI := Lib.hid hI
            have Hone := Lib.hid (checkL_one (diffsL xs ys))
            have Hz := Lib.hid hz
            clear hz hI
            have hcase := HL.out
            have hc9 := check_n1 (some ⟨w.heap.size + 1, 0, Option.none⟩) xs.length xs.length (diffsL xs ys) (fun b => w.heap.size ≤ b) wr Hz.out HI.out
            have Hc9 := Lib.hid hc9
            clear hc9
            by_cases hfz : faultL (diffsL xs ys) = 0
            · rw [if_pos hfz] at hcase
              have HC := Lib.hid hcase
              have Hfz := Lib.hid hfz
              clear hcase hfz
              go_wp2_with (go_at_call 39; refine (Hc9.out _).mono ?_; rintro e w9 ⟨rfl, rfl⟩; rw [Hfz.out])
              go_ret2
              rw [HC.out]
              exact ⟨some ⟨w.heap.size + 1, 0, Option.none⟩, xs.length, by rw [Hz.out]; rfl, Hm.out.alloc _, HI.out.alloc _⟩
            · rw [if_neg hfz] at hcase
              have HC := Lib.hid hcase
              have hne : (faultL (diffsL xs ys) != 0) = true := by simpa using hfz
              clear hcase hfz
              go_wp2_with (go_at_call 39; refine (Hc9.out _).mono ?_; rintro e w9 ⟨rfl, rfl⟩)
              go_ret2
              rw [HC.out]
              exact ⟨Option.none, 0, rfl, Hm.out.alloc _, Ints.nil _ _ _⟩
      · have HC := Lib.hid (show subL xs ys = ([], 18) by
          have hb : bothL xs ys = 18 := by unfold bothL; rw [if_neg (by simpa using hf), if_neg (by simpa using hg), if_pos hl]
          unfold subL; rw [if_pos (by rw [hb]; decide), hb])
        have hn2 : ((xs.length : Int) != (ys.length : Int)) = true := by simp; omega
        clear hf hg hl hchk
        go_enter Try.func35, Try.ntmps35
        go_wp2_with (go_at_call 39; refine (check_any _ _ [xs, ys] _ _ (Mixes.two Hx.out Hy.out _ _ _)).mono ?_; rintro e w9 ⟨rfl, rfl⟩; rw [Hchk.out])
        go_ret2
        rw [HC.out]
        exact ⟨Option.none, 0, rfl, (Mod.refl _ _).alloc _, Ints.nil _ _ _⟩
    · have HC := Lib.hid (show subL xs ys = ([], faultL ys) by
        have hb : bothL xs ys = faultL ys := by unfold bothL; rw [if_neg (by simpa using hf), if_pos hg]
        unfold subL; rw [if_pos (by rw [hb]; exact hg), hb])
      have Hchk := Lib.hid hchk
      have hne : (faultL ys != 0) = true := by simpa using hg
      clear hf hg hchk
      go_enter Try.func35, Try.ntmps35
      go_wp2_with (go_at_call 39; refine (check_any _ _ [xs, ys] _ _ (Mixes.two Hx.out Hy.out _ _ _)).mono ?_; rintro e w9 ⟨rfl, rfl⟩; rw [Hchk.out])
      go_ret2
      rw [HC.out]
      exact ⟨Option.none, 0, rfl, (Mod.refl _ _).alloc _, Ints.nil _ _ _⟩
  · rw [if_neg hf] at hchk
    have HC := Lib.hid (show subL xs ys = ([], faultL xs) by
      have hb : bothL xs ys = faultL xs := by unfold bothL; rw [if_pos hf]
      unfold subL; rw [if_pos (by rw [hb]; exact hf), hb])
    have Hchk := Lib.hid hchk
    have hne : (faultL xs != 0) = true := by simpa using hf
    clear hf hchk
    go_enter Try.func35, Try.ntmps35
    go_wp2_with (go_at_call 39; refine (check_any _ _ [xs, ys] _ _ (Mixes.two Hx.out Hy.out _ _ _)).mono ?_; rintro e w9 ⟨rfl, rfl⟩; rw [Hchk.out])
    go_ret2
    rw [HC.out]
    exact ⟨Option.none, 0, rfl, (Mod.refl _ _).alloc _, Ints.nil _ _ _⟩

theorem matSub_any (a1 a2 : Option Addr) (c1 c2 : Nat) (xs ys : List Int) (D1 D2 : Nat → Prop) (w : World) (hx : Ints D1 w a1 xs) (hy : Ints D2 w a2 ys) :
    Calls Try.prog 17 #[.slice a1 xs.length c1, .slice a2 ys.length c2] w (ListErr (subL xs ys) w) := by
  have Hx := Lib.hid hx
  have Hy := Lib.hid hy
  clear hx hy
  go_enter Try.func17, Try.ntmps17
  go_wp2_with (go_at_call 35; refine (combineSub_any _ _ _ _ _ _ _ _ _ Hx.out Hy.out).mono ?_; rintro e w9 ⟨a', c', rfl, h1, h2⟩)
  have H1 := Lib.hid h1
  have H2 := Lib.hid h2
  clear h1 h2
  go_wp2
  go_ret2
  exact ⟨a', c', rfl, H1.out, H2.out⟩

end Go.Proofs.Ytghciackhkimoaa
