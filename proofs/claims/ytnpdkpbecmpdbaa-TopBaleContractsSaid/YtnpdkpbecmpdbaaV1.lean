/-
  Several texts in one.
-/
import Derived.Test.YtnpdkpbecmpdbaaMem
import Derived.Test.YtnpdkpbecmpdbaaRows
import Derived.Test.YtnpdkpbecmpdbaaOwn
import Derived.IntWalk
import Derived.StillTailTactics
set_option linter.unusedVariables false
set_option linter.unusedSimpArgs false
/-
  What the functions of material and the references compute, in plain Lean.
-/
namespace Go.Proofs.Ytnpdkpbecmpdbaa

/-- A mass that is no mass. -/
def badMass (n : Int) : Bool := decide (n < 0) || decide (1073741824 < n)

/-- The place of the first number that is no mass, counted from k on; -1 if there is none. -/
def badAt (l : List Int) (k : Int) : Int := match l with | [] => -1 | x :: r => if badMass x then k else badAt r (k + 1)
theorem badAt_bound (l : List Int) (k : Int) (hk : 0 ≤ k) : (badAt l k = -1 ∧ l.any badMass = false) ∨ (0 ≤ badAt l k ∧ l.any badMass = true) := by
  induction l generalizing k with
  | nil => exact .inl ⟨rfl, rfl⟩
  | cons x r ih =>
    unfold badAt
    cases hb : badMass x
    · simpa [hb] using ih (k + 1) (by omega)
    · right; simp [hb, hk]

/-- The error of a mix. -/
def faultL (l : List Int) : Int := if 16 < l.length then 18 else if l.any badMass then 1 else 0
/-- The first error of some mixes. -/
def checkL : List (List Int) → Int
  | [] => 0
  | x :: r => if faultL x = 0 then checkL r else faultL x
theorem faultL_cases (l : List Int) : faultL l = 0 ∨ faultL l = 1 ∨ faultL l = 18 := by unfold faultL; split <;> (try split) <;> simp
theorem faultL_long {l : List Int} (h : 16 < l.length) : faultL l = 18 := by simp [faultL, h]
theorem faultL_bad {l : List Int} (h : ¬ 16 < l.length) (hb : l.any badMass = true) : faultL l = 1 := by simp only [faultL, if_neg h, hb, if_true]
theorem faultL_ok {l : List Int} (h : ¬ 16 < l.length) (hb : l.any badMass = false) : faultL l = 0 := by simp only [faultL, if_neg h, hb]; rfl
theorem checkL_one (l : List Int) : checkL [l] = faultL l := by unfold checkL; split <;> simp_all [checkL]
def validL (l : List Int) (n : Int) : Bool := decide ((l.length : Int) = n) && decide (faultL l = 0)
def bothL (a b : List Int) : Int := if faultL a ≠ 0 then faultL a else if faultL b ≠ 0 then faultL b else if a.length ≠ b.length then 18 else 0
def sumsL (a b : List Int) : List Int := List.zipWith (· + ·) a b
def over (n : Int) : Bool := decide (1073741824 < n)
/-- The sum of two mixes, or the error. -/
def addL (a b : List Int) : List Int × Int := if bothL a b ≠ 0 then ([], bothL a b) else if (sumsL a b).any over then ([], 2) else (sumsL a b, 0)

theorem ok_of_fault {l : List Int} (h : faultL l = 0) : l.length ≤ 16 ∧ ∀ k, k < l.length → 0 ≤ ix l k ∧ ix l k ≤ 1073741824 := by
  unfold faultL at h
  split at h
  · exact absurd h (by decide)
  · rename_i hl
    refine ⟨by omega, fun k hk => ?_⟩
    split at h
    · exact absurd h (by decide)
    · rename_i hb
      have : badMass l[k] = false := by
        cases hc : badMass l[k]
        · rfl
        · exact absurd (List.any_eq_true.2 ⟨_, List.getElem_mem hk, hc⟩) hb
      rw [ix_eq hk]
      simp [badMass] at this
      omega

end Go.Proofs.Ytnpdkpbecmpdbaa

/-
  Walks of the small functions of material and of the references: what each call computes.
-/
namespace Go.Proofs.Ytnpdkpbecmpdbaa
open Go.RowKit

set_option maxHeartbeats 400000 in
theorem badMass_any (n : Int) (w : World) :
    Calls Try.prog 63 #[.int .i64 n] w fun e w' => e = .returned (.bool (badMass n)) ∧ w = w' := by
  by_cases h : n < 0
  · go_enter Try.func63, Try.ntmps63
    go_wp2
    go_ret
    exact ⟨by simp [badMass, h], rfl⟩
  · have h' : decide (n < 0) = false := by simpa using h
    go_enter Try.func63, Try.ntmps63
    go_wp2
    go_ret
    exact ⟨by simp [badMass, h'], rfl⟩

set_option maxHeartbeats 400000 in
theorem indexBad_any (a : Option Addr) (c : Nat) (xs : List Int) (D : Nat → Prop) (w : World) (hx : Ints D w a xs) :
    Calls Try.prog 69 #[.slice a xs.length c, .func (.func 63) #[] #[]] w fun e w' => e = .returned (.int .i64 (badAt xs 0)) ∧ w = w' := by
  obtain ⟨lx, b, o, ha, hc⟩ := hx.open
  clear hx
  go_enter Try.func69, Try.ntmps69
  go_wp2
  go_loop [8] (fun i => ∃ k : Nat, k ≤ xs.length ∧ i = .int .i64 k ∧ badAt (xs.drop k) k = badAt xs 0) (fun i => xs.length - (intOf i).toNat)
  case atStart => exact ⟨0, by omega, rfl, rfl⟩
  case round =>
    obtain ⟨k, hk, rfl, hr⟩ := hrel
    have hr' := Lib.hid hr
    clear hr
    by_cases hlt : k < xs.length
    · have h1 := hc k hlt
      obtain rfl := ha (by intro h; simp [h] at hlt)
      clear ha hc
      have e : badAt (xs.drop k) k = if badMass (ix xs k) then (k : Int) else badAt (xs.drop (k + 1)) (k + 1) := by rw [drop_ix hlt]; rfl
      cases hb : badMass (ix xs k)
      · have hb' := Lib.hid hb
        have e' := Lib.hid e
        clear e hb
        go_wp2_with (go_at_call 63; refine (badMass_any _ _).mono ?_; rintro e w' ⟨rfl, rfl⟩; rw [hb'.out])
        exact ⟨⟨k + 1, by omega, by go_num, by rw [← hr'.out, e'.out, hb'.out]; simp⟩, by simp [intOf]; omega⟩
      · have hb' := Lib.hid hb
        have e' := Lib.hid e
        clear e hb
        go_wp2_with (go_at_call 63; refine (badMass_any _ _).mono ?_; rintro e w' ⟨rfl, rfl⟩; rw [hb'.out])
        go_ret
        exact ⟨ret_int (by rw [← hr'.out, e'.out, hb'.out]; simp), rfl⟩
    · go_wp2
      go_ret
      exact ⟨ret_int (by rw [← hr'.out, List.drop_eq_nil_of_le (by omega)]; rfl), rfl⟩

set_option maxHeartbeats 400000 in
theorem containsBad_any (a : Option Addr) (c : Nat) (xs : List Int) (D : Nat → Prop) (w : World) (hx : Ints D w a xs) :
    Calls Try.prog 62 #[.slice a xs.length c, .func (.func 63) #[] #[]] w fun e w' => e = .returned (.bool (xs.any badMass)) ∧ w = w' := by
  have H := Lib.hid hx
  clear hx
  rcases badAt_bound xs 0 (by omega) with ⟨h1, h2⟩ | ⟨h1, h2⟩
  · have h1' := Lib.hid h1
    have h2' := Lib.hid h2
    clear h1 h2
    go_enter Try.func62, Try.ntmps62
    go_wp2_with (go_at_call 69; refine (indexBad_any _ _ _ _ _ H.out).mono ?_; rintro e w' ⟨rfl, rfl⟩; rw [h1'.out])
    go_ret
    exact ⟨ret_bool h2'.out.symm, rfl⟩
  · have h2' := Lib.hid h2
    clear h2
    go_enter Try.func62, Try.ntmps62
    go_wp2_with (go_at_call 69; refine (indexBad_any _ _ _ _ _ H.out).mono ?_; rintro e w' ⟨rfl, rfl⟩)
    go_ret
    exact ⟨ret_bool (by rw [h2'.out]), rfl⟩

set_option maxHeartbeats 800000 in
theorem checkW_any (a : Option Addr) (c : Nat) (xss : List (List Int)) (D : Nat → Prop) (w : World) (hx : Mixes D w a xss) :
    Calls Try.prog 46 #[.slice a xss.length c] w fun e w' => e = .returned (.int .i64 (checkL xss)) ∧ w = w' := by
  obtain ⟨lx, b, o, ha, hc⟩ := hx.open
  clear hx
  go_enter Try.func46, Try.ntmps46
  go_wp2
  go_loop [7] (fun i => ∃ k : Nat, k ≤ xss.length ∧ i = .int .i64 k ∧ checkL (xss.drop k) = checkL xss) (fun i => xss.length - (intOf i).toNat)
  case atStart => exact ⟨0, by omega, rfl, rfl⟩
  case round =>
    obtain ⟨k, hk, rfl, hr⟩ := hrel
    have hr' := Lib.hid hr
    clear hr
    by_cases hlt : k < xss.length
    · obtain ⟨a', c', h1, hi⟩ := hc k hlt
      obtain rfl := ha (by intro h; simp [h] at hlt)
      clear ha hc
      have e := Lib.hid (show checkL (xss.drop k) = if faultL (rx xss k) = 0 then checkL (xss.drop (k + 1)) else faultL (rx xss k) by rw [drop_rx hlt]; rfl)
      have hi' := Lib.hid hi
      clear hi
      by_cases hl : 16 < (rx xss k).length
      · have hf := Lib.hid (faultL_long hl)
        go_wp2
        go_ret
        exact ⟨ret_int (by rw [← hr'.out, e.out, hf.out]; rfl), rfl⟩
      · cases hb : (rx xss k).any badMass
        · have hf := Lib.hid (faultL_ok hl hb)
          have hb' := Lib.hid hb
          clear hb
          go_wp2_with (go_at_call 62; refine (containsBad_any _ _ _ _ _ hi'.out).mono ?_; rintro e w' ⟨rfl, rfl⟩; rw [hb'.out])
          exact ⟨⟨k + 1, by omega, by go_num, by rw [← hr'.out, e.out, hf.out]; rfl⟩, by simp [intOf]; omega⟩
        · have hf := Lib.hid (faultL_bad hl hb)
          have hb' := Lib.hid hb
          clear hb
          go_wp2_with (go_at_call 62; refine (containsBad_any _ _ _ _ _ hi'.out).mono ?_; rintro e w' ⟨rfl, rfl⟩; rw [hb'.out])
          go_ret
          exact ⟨ret_int (by rw [← hr'.out, e.out, hf.out]; rfl), rfl⟩
    · go_wp2
      go_ret
      exact ⟨ret_int (by rw [← hr'.out, List.drop_eq_nil_of_le (by omega)]; rfl), rfl⟩

end Go.Proofs.Ytnpdkpbecmpdbaa

/-
  Walks over material.Valid, the reference's Valid, both.
-/
namespace Go.Proofs.Ytnpdkpbecmpdbaa
open Go.RowKit

theorem decide_beq (a b : Int) : decide (a = b) = (a == b) := rfl

end Go.Proofs.Ytnpdkpbecmpdbaa

/-
  Walks over the reference's Same, SameAll of mixes.
-/
namespace Go.Proofs.Ytnpdkpbecmpdbaa
open Go.RowKit

theorem take_eq_step {xs ys : List Int} {k : Nat} (hx : k < xs.length) (hy : k < ys.length) (h : xs.take k = ys.take k) (e : ix xs k = ix ys k) :
    xs.take (k + 1) = ys.take (k + 1) := by
  rw [List.take_succ_eq_append_getElem hx, List.take_succ_eq_append_getElem hy, h]
  simp only [ix_eq hx, ix_eq hy] at e
  rw [e]
theorem take_eq_step2 {xs ys : List (List Int)} {k : Nat} (hx : k < xs.length) (hy : k < ys.length) (h : xs.take k = ys.take k) (e : rx xs k = rx ys k) :
    xs.take (k + 1) = ys.take (k + 1) := by
  rw [List.take_succ_eq_append_getElem hx, List.take_succ_eq_append_getElem hy, h]
  simp only [rx_eq hx, rx_eq hy] at e
  rw [e]

theorem quiet_drawn {P : Program} {f : FuncId} {args : Array Value} {w : World} {n : Nat} {v : Value}
    (h : Calls P f args (w.drewN n) fun e w' => e = .returned v ∧ Drawn (w.drewN n) w') : Calls P f args (w.drewN n) fun e w'' => e = .returned v ∧ ∃ m, w'' = w.drewN m :=
  h.mono fun _ _ ⟨he, m, hm⟩ => ⟨he, n + m, by rw [hm, World.drewN_drewN]⟩
theorem quiet_drawn2 {P : Program} {f : FuncId} {args : Array Value} {w : World} {a n : Nat} {v : Value}
    (h : Calls P f args (w.drewN (a + n)) fun e w' => e = .returned v ∧ Drawn (w.drewN (a + n)) w') : Calls P f args (w.drewN (a + n)) fun e w'' => e = .returned v ∧ ∃ m, w'' = w.drewN (a + m) :=
  h.mono fun _ _ ⟨he, m, hm⟩ => ⟨he, n + m, by rw [hm, World.drewN_drewN, Nat.add_assoc]⟩
theorem calls_val {P : Program} {f : FuncId} {args : Array Value} {w : World} {v v' : Value} {R : World → Prop} (hv : v = v')
    (h : Calls P f args w fun e w' => e = .returned v ∧ R w') : Calls P f args w fun e w' => e = .returned v' ∧ R w' := by subst hv; exact h

end Go.Proofs.Ytnpdkpbecmpdbaa

/-
  The types of mixes and of lists of mixes: their sizes.
-/
namespace Go.Proofs.Ytnpdkpbecmpdbaa
open Go.RowKit

theorem infoInt : (Try.prog.info? 3).map (fun i => (i.zero, i.size, i.bytes)) = some (some (.int .i64 0), 1, 8) := by kernel_rfl
theorem infoMix : (Try.prog.info? 36).map (fun i => (i.zero, i.size, i.bytes)) = some (some (.slice Option.none 0 0), 1, 24) := by kernel_rfl
theorem elemMix : Elem1 Try.prog 36 3 8 := Elem1.mk Try.underlying36 infoInt rfl
theorem elemMixes : Elem1 Try.prog 27 36 24 := Elem1.mk Try.underlying27 infoMix rfl

theorem madeInts (w : World) (m : Nat) (t : TypeId) : (w.alloc (.cells (madeCells #[.int .i64 0] m) t)).rowIs w.heap.size t m (fun _ => .int .i64 0) := World.rowIs_made w _ m t

end Go.Proofs.Ytnpdkpbecmpdbaa

/-
  Walk over the reference's Add of mixes.
-/
namespace Go.Proofs.Ytnpdkpbecmpdbaa
open Go.RowKit

theorem sumsL_length {a b : List Int} (h : a.length = b.length) : (sumsL a b).length = a.length := by simp [sumsL, h]
theorem ix_sumsL {a b : List Int} {k : Nat} (h : a.length = b.length) (hk : k < a.length) : ix (sumsL a b) k = ix a k + ix b k := by
  have h1 : k < (sumsL a b).length := by rw [sumsL_length h]; exact hk
  rw [ix_eq h1, ix_eq hk, ix_eq (by omega)]; simp [sumsL]
theorem both_zero {a b : List Int} (h : bothL a b = 0) : faultL a = 0 ∧ faultL b = 0 ∧ a.length = b.length := by
  unfold bothL at h
  split at h
  · contradiction
  · split at h
    · contradiction
    · split at h
      · exact absurd h (by decide)
      · refine ⟨by omega, by omega, by omega⟩
theorem any_over {a b : List Int} {k : Nat} (h : a.length = b.length) (hk : k < a.length) (ho : 1073741824 < ix a k + ix b k) : (sumsL a b).any over = true := by
  have h1 : k < (sumsL a b).length := by rw [sumsL_length h]; exact hk
  rw [List.any_eq_true]
  refine ⟨_, List.getElem_mem h1, ?_⟩
  rw [← ix_eq h1, ix_sumsL h hk]; simpa [over] using ho
theorem none_over {a b : List Int} (h : a.length = b.length) (ho : ∀ k, k < a.length → ix a k + ix b k ≤ 1073741824) : (sumsL a b).any over = false := by
  rw [List.any_eq_false]
  intro x hx
  obtain ⟨k, hk, rfl⟩ := List.mem_iff_getElem.1 hx
  have hk2 : k < a.length := by rw [sumsL_length h] at hk; exact hk
  rw [← ix_eq hk, ix_sumsL h hk2]
  simpa [over] using ho k hk2

/-- What a call returns that gives a list of numbers in new memory, and an error number. -/
def ListErr (r : List Int × Int) (w : World) (e : Ending) (w' : World) : Prop :=
  ∃ a' c', e = .returned (.tuple #[.slice a' r.1.length c', .int .i64 r.2]) ∧ Mod NoBlock w w' ∧ Ints (fun b => w.heap.size ≤ b) w' a' r.1

end Go.Proofs.Ytnpdkpbecmpdbaa

/-
  material.combine, Add, Sub.
-/
namespace Go.Proofs.Ytnpdkpbecmpdbaa
open Go.RowKit

theorem checkL_two (a b : List Int) : checkL [a, b] = if faultL a = 0 then faultL b else faultL a := by
  unfold checkL
  rw [checkL_one]

/-- check of one mix in a new list. -/
theorem check_n1 (a : Option Addr) (n c : Nat) (xs : List Int) (D : Nat → Prop) (w : World) (hn : xs.length = n) (hx : Ints D w a xs) (t : TypeId) :
    Calls Try.prog 46 #[.slice (some ⟨w.heap.size, 0, Option.none⟩) 1 1] (w.alloc (.cells #[.slice a n c] t)) fun e w' => e = .returned (.int .i64 (faultL xs)) ∧ w.alloc (.cells #[.slice a n c] t) = w' := by
  subst hn
  have := checkW_any _ 1 [xs] _ _ (Mixes.one hx c t)
  rw [checkL_one] at this
  exact this

def diffsL (a b : List Int) : List Int := List.zipWith (· - ·) a b
/-- The difference of two mixes, or the error. -/
def subL (a b : List Int) : List Int × Int := if bothL a b ≠ 0 then ([], bothL a b) else if (diffsL a b).any (fun n => decide (n < 0)) then ([], 1) else (diffsL a b, 0)
theorem diffsL_length {a b : List Int} (h : a.length = b.length) : (diffsL a b).length = a.length := by simp [diffsL, h]
theorem ix_diffsL {a b : List Int} {k : Nat} (h : a.length = b.length) (hk : k < a.length) : ix (diffsL a b) k = ix a k - ix b k := by
  have h1 : k < (diffsL a b).length := by rw [diffsL_length h]; exact hk
  rw [ix_eq h1, ix_eq hk, ix_eq (by omega)]; simp [diffsL]
theorem both_ok {a b : List Int} (h1 : faultL a = 0) (h2 : faultL b = 0) (h : a.length = b.length) : bothL a b = 0 := by
  unfold bothL; rw [if_neg (by simpa using h1), if_neg (by simpa using h2), if_neg (by simpa using h)]
theorem addL_ok {a b : List Int} (h1 : faultL a = 0) (h2 : faultL b = 0) (h : a.length = b.length) : addL a b = if faultL (sumsL a b) = 0 then (sumsL a b, 0) else ([], 2) := by
  obtain ⟨l1, g1⟩ := ok_of_fault h1
  obtain ⟨l2, g2⟩ := ok_of_fault h2
  have hlen := sumsL_length h
  have he : (sumsL a b).any badMass = (sumsL a b).any over := by
    rw [Bool.eq_iff_iff, List.any_eq_true, List.any_eq_true]
    constructor
    · rintro ⟨x, hx, hb⟩
      obtain ⟨k, hk, rfl⟩ := List.mem_iff_getElem.1 hx
      refine ⟨_, hx, ?_⟩
      rw [← ix_eq hk, ix_sumsL h (by omega)] at hb ⊢
      have := g1 k (by omega)
      have := g2 k (by omega)
      simp [badMass] at hb
      simp [over]; omega
    · rintro ⟨x, hx, hb⟩
      exact ⟨x, hx, by simp [over] at hb; simp [badMass, hb]⟩
  unfold addL
  rw [if_neg (by simpa using both_ok h1 h2 h), ← he]
  cases hc : (sumsL a b).any badMass
  · rw [faultL_ok (by omega) hc]; rfl
  · rw [faultL_bad (by omega) hc]; rfl
theorem subL_ok {a b : List Int} (h1 : faultL a = 0) (h2 : faultL b = 0) (h : a.length = b.length) : subL a b = if faultL (diffsL a b) = 0 then (diffsL a b, 0) else ([], 1) := by
  obtain ⟨l1, g1⟩ := ok_of_fault h1
  obtain ⟨l2, g2⟩ := ok_of_fault h2
  have hlen := diffsL_length h
  have he : (diffsL a b).any badMass = (diffsL a b).any (fun n => decide (n < 0)) := by
    rw [Bool.eq_iff_iff, List.any_eq_true, List.any_eq_true]
    constructor
    · rintro ⟨x, hx, hb⟩
      obtain ⟨k, hk, rfl⟩ := List.mem_iff_getElem.1 hx
      refine ⟨_, hx, ?_⟩
      rw [← ix_eq hk, ix_diffsL h (by omega)] at hb ⊢
      have := g1 k (by omega)
      have := g2 k (by omega)
      simp [badMass] at hb
      simp; omega
    · rintro ⟨x, hx, hb⟩
      exact ⟨x, hx, by simp at hb; simp [badMass, hb]⟩
  unfold subL
  rw [if_neg (by simpa using both_ok h1 h2 h), ← he]
  cases hc : (diffsL a b).any badMass
  · rw [faultL_ok (by omega) hc]; rfl
  · rw [faultL_bad (by omega) hc]; rfl

end Go.Proofs.Ytnpdkpbecmpdbaa

/-
  Walk over the reference's Sub of mixes.
-/
namespace Go.Proofs.Ytnpdkpbecmpdbaa
open Go.RowKit

theorem any_under {a b : List Int} {k : Nat} (h : a.length = b.length) (hk : k < a.length) (ho : ix a k < ix b k) : (diffsL a b).any (fun n => decide (n < 0)) = true := by
  have h1 : k < (diffsL a b).length := by rw [diffsL_length h]; exact hk
  rw [List.any_eq_true]
  refine ⟨_, List.getElem_mem h1, ?_⟩
  rw [← ix_eq h1, ix_diffsL h hk]; simp; omega
theorem none_under {a b : List Int} (h : a.length = b.length) (ho : ∀ k, k < a.length → ix b k ≤ ix a k) : (diffsL a b).any (fun n => decide (n < 0)) = false := by
  rw [List.any_eq_false]
  intro x hx
  obtain ⟨k, hk, rfl⟩ := List.mem_iff_getElem.1 hx
  have hk2 : k < a.length := by rw [diffsL_length h] at hk; exact hk
  rw [← ix_eq hk, ix_diffsL h hk2]
  have := ho k hk2
  simp; omega

end Go.Proofs.Ytnpdkpbecmpdbaa

/-
  material.Total, Purity, Valid; the reference's.
-/
namespace Go.Proofs.Ytnpdkpbecmpdbaa
open Go.RowKit

/-- The total of a mix, or the error. -/
def totL (xs : List Int) : Int × Int := if faultL xs = 0 then (xs.sum, 0) else (0, faultL xs)
theorem totL_ok {xs : List Int} (h : faultL xs = 0) : totL xs = (xs.sum, 0) := if_pos h
theorem totL_bad {xs : List Int} (h : ¬ faultL xs = 0) : totL xs = (0, faultL xs) := if_neg h

theorem sum_take_bound {xs : List Int} {M : Int} (h : ∀ k, k < xs.length → 0 ≤ ix xs k ∧ ix xs k ≤ M) : ∀ k, k ≤ xs.length → 0 ≤ (xs.take k).sum ∧ (xs.take k).sum ≤ (k : Int) * M
  | 0, _ => by simp
  | k + 1, hk => by
    obtain ⟨h1, h2⟩ := sum_take_bound h k (by omega)
    obtain ⟨h3, h4⟩ := h k (by omega)
    have e : ((k + 1 : Nat) : Int) * M = (k : Int) * M + M := by rw [Int.natCast_add, Int.add_mul]; simp
    rw [take_ix (by omega), List.sum_append, e]
    simp
    omega
theorem sum_bound {xs : List Int} (h : faultL xs = 0) : 0 ≤ xs.sum ∧ xs.sum ≤ 17179869184 := by
  obtain ⟨hl, hg⟩ := ok_of_fault h
  have := sum_take_bound hg xs.length (Nat.le_refl _)
  rw [List.take_length] at this
  omega

set_option maxHeartbeats 800000 in
theorem matTotal_any (a : Option Addr) (c : Nat) (xs : List Int) (D : Nat → Prop) (w : World) (hx : Ints D w a xs) :
    Calls Try.prog 27 #[.slice a xs.length c] w fun e w' => e = .returned (.tuple #[.int .i64 (totL xs).1, .int .i64 (totL xs).2]) ∧ Mod NoBlock w w' := by
  have Hc := Lib.hid (check_n1 a xs.length c xs D w rfl hx)
  by_cases hf : faultL xs = 0
  · rw [totL_ok hf]
    obtain ⟨hl, hg⟩ := ok_of_fault hf
    have hb := sum_take_bound hg
    obtain ⟨lx, b, off, ha, hcl⟩ := (hx.alloc (.cells #[.slice a xs.length c] 36)).open
    have Ha := Lib.hid ha
    have Hcl := Lib.hid hcl
    have Hb := Lib.hid hb
    have Hg := Lib.hid hg
    have Hf := Lib.hid hf
    clear hx hf hg hb ha hcl
    go_enter Try.func27, Try.ntmps27
    go_wp2_with (go_at_call 46; refine (Hc.out _).mono ?_; rintro e w9 ⟨rfl, rfl⟩; rw [Hf.out])
    generalize hw0 : w.alloc (.cells #[.slice a xs.length c] 36) = w0 at Hcl ⊢
    have Hm := Lib.hid (show Mod NoBlock w w0 by rw [← hw0]; exact (Mod.refl _ _).alloc _)
    clear hw0 Hc
    go_loop [5, 16] (fun s i => ∃ (k : Nat) (S : Int), k ≤ xs.length ∧ i = .int .i64 k ∧ s = .int .i64 S ∧ S = (xs.take k).sum ∧ 0 ≤ S ∧ S ≤ 17179869184) (fun _ i => xs.length - (intOf i).toNat)
    case atStart => exact ⟨0, 0, by omega, rfl, rfl, by simp, by omega, by omega⟩
    case round =>
      obtain ⟨k, S, hk, rfl, rfl, hS, s1, s2⟩ := hrel
      have HS := Lib.hid hS
      clear hS
      by_cases hlt : k < xs.length
      · obtain rfl := Ha.out (by intro e; subst e; simp at hlt)
        have h1 := Hcl.out k hlt
        have hb1 := Hb.out (k + 1) (by omega)
        have hg1 := Hg.out k hlt
        rw [take_ix hlt, List.sum_append, ← HS.out] at hb1
        simp at hb1
        have HT := Lib.hid (show (xs.take (k + 1)).sum = S + ix xs k by rw [take_ix hlt, List.sum_append, ← HS.out]; simp)
        generalize ix xs k = v at *
        obtain ⟨g1, g2⟩ := hg1
        have hb2 : S + v ≤ 17179869184 := by omega
        have hb3 : 0 ≤ S + v := by omega
        clear hb1
        go_wp2
        exact ⟨⟨k + 1, S + v, by omega, by go_num, rfl, HT.out.symm, hb3, hb2⟩, by simp [intOf]; omega⟩
      · go_wp2
        go_ret2
        have := HS.out
        rw [List.take_of_length_le (by omega)] at this
        rw [this]
        exact ⟨rfl, Hm.out⟩
  · rw [totL_bad hf]
    have hne : (faultL xs != 0) = true := by simpa using hf
    clear hx hf
    go_enter Try.func27, Try.ntmps27
    go_wp2_with (go_at_call 46; refine (Hc.out _).mono ?_; rintro e w9 ⟨rfl, rfl⟩)
    go_ret2
    exact ⟨rfl, (Mod.refl _ _).alloc _⟩

/-- The purity of a material in a mix, or the error. -/
def purL (xs : List Int) (i : Int) : Int × Int :=
  if faultL xs = 0 then if i < 0 ∨ (xs.length : Int) ≤ i then (0, 1) else if xs.sum = 0 then (0, 10) else (ix xs i.toNat * 1000 / xs.sum, 0) else (0, faultL xs)
theorem purL_bad {xs : List Int} {i : Int} (h : ¬ faultL xs = 0) : purL xs i = (0, faultL xs) := if_neg h
theorem purL_range {xs : List Int} {i : Int} (h : faultL xs = 0) (h2 : i < 0 ∨ (xs.length : Int) ≤ i) : purL xs i = (0, 1) := by unfold purL; rw [if_pos h, if_pos h2]
theorem purL_empty {xs : List Int} {i : Int} (h : faultL xs = 0) (h2 : ¬ (i < 0 ∨ (xs.length : Int) ≤ i)) (h3 : xs.sum = 0) : purL xs i = (0, 10) := by unfold purL; rw [if_pos h, if_neg h2, if_pos h3]
theorem purL_ok {xs : List Int} {i : Int} (h : faultL xs = 0) (h2 : ¬ (i < 0 ∨ (xs.length : Int) ≤ i)) (h3 : ¬ xs.sum = 0) : purL xs i = (ix xs i.toNat * 1000 / xs.sum, 0) := by unfold purL; rw [if_pos h, if_neg h2, if_neg h3]

set_option maxHeartbeats 800000 in
theorem matPurity_any (a : Option Addr) (c : Nat) (xs : List Int) (i : Int) (D : Nat → Prop) (w : World) (hx : Ints D w a xs) :
    Calls Try.prog 40 #[.slice a xs.length c, .int .i64 i] w fun e w' => e = .returned (.tuple #[.int .i64 (purL xs i).1, .int .i64 (purL xs i).2]) ∧ Mod NoBlock w w' := by
  have Hx := Lib.hid hx
  have hlx := hx.open.1
  clear hx
  by_cases hf : faultL xs = 0
  · have Ht := Lib.hid (totL_ok hf)
    obtain ⟨s1, s2⟩ := sum_bound hf
    obtain ⟨hl, hg⟩ := ok_of_fault hf
    by_cases h0 : i < 0
    · rw [purL_range hf (.inl h0)]
      clear hf hg
      go_enter Try.func40, Try.ntmps40
      go_wp2_with (go_at_call 27; refine (matTotal_any _ _ _ _ _ Hx.out).mono ?_; rintro e w9 ⟨rfl, m⟩; rw [Ht.out]; have M := Lib.hid m; clear m)
      go_ret2
      exact ⟨rfl, M.out⟩
    by_cases h1 : (xs.length : Int) ≤ i
    · rw [purL_range hf (.inr h1)]
      clear hf hg
      go_enter Try.func40, Try.ntmps40
      go_wp2_with (go_at_call 27; refine (matTotal_any _ _ _ _ _ Hx.out).mono ?_; rintro e w9 ⟨rfl, m⟩; rw [Ht.out]; have M := Lib.hid m; clear m)
      go_ret2
      exact ⟨rfl, M.out⟩
    have h2 : ¬ (i < 0 ∨ (xs.length : Int) ≤ i) := by omega
    by_cases h3 : xs.sum = 0
    · rw [purL_empty hf h2 h3]
      rw [h3] at Ht
      clear hf hg h3 s1 s2
      go_enter Try.func40, Try.ntmps40
      go_wp2_with (go_at_call 27; refine (matTotal_any _ _ _ _ _ Hx.out).mono ?_; rintro e w9 ⟨rfl, m⟩; rw [Ht.out]; have M := Lib.hid m; clear m)
      go_ret2
      exact ⟨rfl, M.out⟩
    · rw [purL_ok hf h2 h3]
      obtain ⟨k, rfl⟩ : ∃ k : Nat, i = k := ⟨i.toNat, by omega⟩
      obtain ⟨_, b, off, ha, hcl⟩ := Hx.out.open
      have hk : k < xs.length := by omega
      have hcell := hcl k hk
      obtain rfl := ha (by intro e; subst e; simp at hk)
      obtain ⟨g1, g2⟩ := hg k hk
      generalize xs.sum = S at *
      have z : (S == 0) = false := by rw [beq_eq_false_iff_ne]; exact h3
      have z2 : (0 : Int) < S := by omega
      have Hcell := Lib.hid hcell
      have e2 : ((k : Int)).toNat = k := by simp
      rw [e2]
      generalize ix xs k = v at *
      clear hf hg h3 ha hcl hcell
      go_enter Try.func40, Try.ntmps40
      go_wp2_with (go_at_call 27; refine (matTotal_any _ _ _ _ _ Hx.out).mono ?_; rintro e w9 ⟨rfl, m⟩; rw [Ht.out]; have M := Lib.hid m; have hc9 := m.cell Hcell.out (fun h => h); clear m)
      go_ret2
      exact ⟨rfl, M.out⟩
  · rw [purL_bad hf]
    have Ht := Lib.hid (totL_bad hf)
    have hne : (faultL xs != 0) = true := by simpa using hf
    clear hf
    go_enter Try.func40, Try.ntmps40
    go_wp2_with (go_at_call 27; refine (matTotal_any _ _ _ _ _ Hx.out).mono ?_; rintro e w9 ⟨rfl, m⟩; rw [Ht.out]; have M := Lib.hid m; clear m)
    go_ret2
    exact ⟨rfl, M.out⟩

end Go.Proofs.Ytnpdkpbecmpdbaa
