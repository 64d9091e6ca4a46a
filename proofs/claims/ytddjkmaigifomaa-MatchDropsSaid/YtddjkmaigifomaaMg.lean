/-
  match: which potentials prove an assignment.
-/
import Derived.Test.YtddjkmaigifomaaMd
import Derived.Deep.RegionLaw
set_option linter.unusedVariables false
set_option linter.unusedSimpArgs false
namespace Go.Proofs.Ytddjkmaigifomaa
open Go.RowKit

/-- All numbers are amounts of money. -/
def Ins (l : List Int) : Prop := ∀ i, i < l.length → -1000000000000 ≤ ix l i ∧ ix l i ≤ 1000000000000

def InsRes (l : List Int) (w : World) (e : Ending) (w' : World) : Prop := ∃ r : Bool, e = .returned (.bool r) ∧ (r = true ↔ Ins l) ∧ w = w'
theorem inside_any {D : Nat → Prop} {w : World} {a : Option Addr} {c : Nat} {l : List Int} (h : Ints D w a l) :
    Calls Try.prog 31 #[.slice a l.length c] w (InsRes l w) := by
  have H := Lib.hid h
  have ll : l.length ≤ maxLen := h.1
  simp only [maxLen] at ll
  clear h
  go_enter Try.func31, Try.ntmps31
  go_wp2_with fail
  go_loopw [7] (fun i wr => ∃ q : Nat, q ≤ l.length ∧ i = .int .i64 q ∧ (∀ i, i < q → -1000000000000 ≤ ix l i ∧ ix l i ≤ 1000000000000) ∧ Hid (wr = w)) (fun i _ => l.length - (intOf i).toNat)
  case atStart => exact ⟨0, by omega, rfl, fun i hi => absurd hi (Nat.not_lt_zero i), Lib.hid rfl⟩
  case round =>
    obtain ⟨q, hq, rfl, hok, ⟨rfl⟩⟩ := hrel
    have HO := Lib.hid hok
    clear hok
    by_cases hlt : q < l.length
    · obtain ⟨_, b, o, ha, hc⟩ := H.out.open
      obtain rfl := ha (by intro e; rw [e] at hlt; simp at hlt)
      have d := hc q hlt
      have q1 : (q : Int) < (l.length : Int) := by omega
      clear hc ha
      obtain ⟨x, hx⟩ : ∃ x, ix l q = x := ⟨_, rfl⟩
      rw [hx] at d
      have Hx := Lib.hid hx
      clear hx
      by_cases hb : x < -1000000000000 ∨ 1000000000000 < x
      · have Hb := Lib.hid hb
        rcases hb with hb | hb
        · go_wp2_with fail
          go_ret
          exact ⟨false, rfl, ⟨fun h => (by cases h), fun h => by have := h q hlt; rw [Hx.out] at this; have := Hb.out; omega⟩, rfl⟩
        · have hb2 : ¬ x < -1000000000000 := by omega
          go_wp2_with fail
          go_ret
          exact ⟨false, rfl, ⟨fun h => (by cases h), fun h => by have := h q hlt; rw [Hx.out] at this; have := Hb.out; omega⟩, rfl⟩
      · have x1 : -1000000000000 ≤ x := by omega
        have x2 : x ≤ 1000000000000 := by omega
        have Hb := Lib.hid (And.intro x1 x2)
        clear hb
        go_wp2_with fail
        exact ⟨⟨q + 1, by omega, by go_num, fun i hi => by
          by_cases e : i = q
          · rw [e, Hx.out]; exact Hb.out
          · exact HO.out i (by omega), Lib.hid trivial⟩, by simp [intOf]; omega⟩
    · have hq9 : q = l.length := by omega
      have Hq := Lib.hid hq9
      go_wp2_with fail
      go_ret
      exact ⟨true, rfl, ⟨fun _ i hi => HO.out i (by have := Hq.out; omega), fun _ => rfl⟩, rfl⟩

theorem inside_yes {D : Nat → Prop} {w : World} {a : Option Addr} {c : Nat} {l : List Int} (h : Ints D w a l) (hi : Ins l) :
    Calls Try.prog 31 #[.slice a l.length c] w fun e w' => e = .returned (.bool true) ∧ w = w' :=
  (inside_any (c := c) h).mono fun e w' h => by
    obtain ⟨r, rfl, hr, rfl⟩ := h
    exact ⟨by rw [hr.2 hi], rfl⟩
theorem inside_no {D : Nat → Prop} {w : World} {a : Option Addr} {c : Nat} {l : List Int} (h : Ints D w a l) (hi : ¬ Ins l) :
    Calls Try.prog 31 #[.slice a l.length c] w fun e w' => e = .returned (.bool false) ∧ w = w' :=
  (inside_any (c := c) h).mono fun e w' h => by
    obtain ⟨r, rfl, hr, rfl⟩ := h
    cases r
    · exact ⟨rfl, rfl⟩
    · exact absurd (hr.1 rfl) hi
theorem valM_prob {C : List (List Int)} {sk cols : List Int} (h : (valM C sk cols).2 = 0) : chkM C sk = 0 ∧ cols.length = C.length ∧ (∀ i, i < C.length → errV (rx C 0).length C cols i = 0) ∧ (valM C sk cols).1 = sumR C.length (costV C sk cols) := by
  unfold valM at h ⊢
  by_cases h1 : chkM C sk ≠ 0
  · rw [if_pos h1] at h; exact absurd h h1
  rw [if_neg h1] at h ⊢
  by_cases h2 : cols.length ≠ C.length
  · rw [if_pos h2] at h; cases h
  rw [if_neg h2] at h ⊢
  by_cases h3 : firstE (errV (rx C 0).length C cols) C.length ≠ 0
  · rw [if_pos h3] at h; exact absurd h h3
  rw [if_neg h3]
  exact ⟨by omega, by omega, firstE_ok (by omega), rfl⟩

/-- The potentials U, V prove that the assignment cols costs t, and none less. -/
structure ProOk (C : List (List Int)) (sk cols : List Int) (t : Int) (U V : List Int) : Prop where
  err : (valM C sk cols).2 = 0
  val : (valM C sk cols).1 = t
  lU : U.length = C.length
  lV : V.length = (rx C 0).length
  iU : Ins U
  iV : Ins V
  v0 : ∀ j, j < (rx C 0).length → ix V j ≤ 0
  uS : ∀ i, i < C.length → ix U i ≤ ix sk i
  uv : ∀ i, i < C.length → ∀ j, j < (rx C 0).length → ix (rx C i) j ≠ -1 → ix U i + ix V j ≤ ix (rx C i) j
  sum : sumR (rx C 0).length (ix V) + sumR C.length (ix U) = t

def BoolIs (P : Prop) (w : World) (e : Ending) (w' : World) : Prop := ∃ r : Bool, e = .returned (.bool r) ∧ (r = true ↔ P) ∧ Mod NoBlock w w'
theorem BoolIs.no {P : Prop} {w w' : World} (h : ¬ P) (hm : Mod NoBlock w w') : BoolIs P w (.returned (.bool false)) w' := ⟨false, rfl, ⟨fun h => (by cases h), fun hp => absurd hp h⟩, hm⟩
theorem BoolIs.yes {P : Prop} {w w' : World} (h : P) (hm : Mod NoBlock w w') : BoolIs P w (.returned (.bool true)) w' := ⟨true, rfl, ⟨fun _ => h, fun _ => rfl⟩, hm⟩
theorem Ins.sum {l : List Int} (h : Ins l) : ∀ q, q ≤ l.length → -(1000000000000 * (q : Int)) ≤ sumR q (ix l) ∧ sumR q (ix l) ≤ 1000000000000 * (q : Int)
  | 0, _ => by simp [sumR]
  | q + 1, hq => by
    obtain ⟨h1, h2⟩ := Ins.sum h q (by omega)
    have := h q (by omega)
    unfold sumR
    omega

/-- What the code looks at first. -/
def PreP (C : List (List Int)) (sk cols : List Int) (t : Int) (U V : List Int) : Prop := (valM C sk cols).2 = 0 ∧ (valM C sk cols).1 = t ∧ U.length = C.length ∧ V.length = (rx C 0).length ∧ Ins U ∧ Ins V
theorem ProOk.pre {C : List (List Int)} {sk cols : List Int} {t : Int} {U V : List Int} (h : ProOk C sk cols t U V) : PreP C sk cols t U V := ⟨h.err, h.val, h.lU, h.lV, h.iU, h.iV⟩

end Go.Proofs.Ytddjkmaigifomaa
