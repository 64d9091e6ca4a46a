/-
  match: which potentials prove an assignment, by the reference.
-/
import Derived.Test.YtddjkmaigifomaaMg
import Derived.Test.YtddjkmaigifomaaMe
import Derived.Deep.RegionWith
import Derived.Deep.DeepCutAuto
import Derived.Deep.CutBlock
set_option linter.unusedVariables false
set_option linter.unusedSimpArgs false
namespace Go.Proofs.Ytddjkmaigifomaa
open Go.RowKit

theorem refInside_any {D : Nat → Prop} {w : World} {a : Option Addr} {c : Nat} {l : List Int} (h : Ints D w a l) :
    Calls Try.prog 30 #[.slice a l.length c] w (InsRes l w) := by
  have H := Lib.hid h
  have ll : l.length ≤ maxLen := h.1
  simp only [maxLen] at ll
  clear h
  go_enter Try.func30, Try.ntmps30
  go_wp2_with fail
  go_loopw [3] (fun i wr => ∃ q : Nat, q ≤ l.length ∧ i = .int .i64 q ∧ (∀ i, i < q → -1000000000000 ≤ ix l i ∧ ix l i ≤ 1000000000000) ∧ Hid (wr = w)) (fun i _ => l.length - (intOf i).toNat)
  case atStart => exact ⟨0, by omega, rfl, fun i hi => absurd hi (Nat.not_lt_zero i), Lib.hid rfl⟩
  case round =>
    obtain ⟨q, hq, rfl, hok, ⟨rfl⟩⟩ := hrel
    have HO := Lib.hid hok
    clear hok
    by_cases hlt : q < l.length
    · obtain ⟨_, b, o, ha, hc⟩ := H.out.open
      obtain rfl := ha (by intro e; rw [e] at hlt; simp at hlt)
      have d := hc q hlt
      have q1 : (q : Int) < (l.length : Int) := by omega
      clear hc ha
      obtain ⟨x, hx⟩ : ∃ x, ix l q = x := ⟨_, rfl⟩
      rw [hx] at d
      have Hx := Lib.hid hx
      clear hx
      by_cases hb : x < -1000000000000 ∨ 1000000000000 < x
      · have Hb := Lib.hid hb
        rcases hb with hb | hb
        · go_wp2_with fail
          go_ret
          exact ⟨false, rfl, ⟨fun h => (by cases h), fun h => by have := h q hlt; rw [Hx.out] at this; have := Hb.out; omega⟩, rfl⟩
        · have hb2 : ¬ x < -1000000000000 := by omega
          go_wp2_with fail
          go_ret
          exact ⟨false, rfl, ⟨fun h => (by cases h), fun h => by have := h q hlt; rw [Hx.out] at this; have := Hb.out; omega⟩, rfl⟩
      · have x1 : -1000000000000 ≤ x := by omega
        have x2 : x ≤ 1000000000000 := by omega
        have Hb := Lib.hid (And.intro x1 x2)
        clear hb
        go_wp2_with fail
        exact ⟨⟨q + 1, by omega, by go_num, fun i hi => by
          by_cases e : i = q
          · rw [e, Hx.out]; exact Hb.out
          · exact HO.out i (by omega), Lib.hid trivial⟩, by simp [intOf]; omega⟩
    · have hq9 : q = l.length := by omega
      have Hq := Lib.hid hq9
      go_wp2_with fail
      go_ret
      exact ⟨true, rfl, ⟨fun _ i hi => HO.out i (by have := Hq.out; omega), fun _ => rfl⟩, rfl⟩

theorem refInside_yes {D : Nat → Prop} {w : World} {a : Option Addr} {c : Nat} {l : List Int} (h : Ints D w a l) (hi : Ins l) :
    Calls Try.prog 30 #[.slice a l.length c] w fun e w' => e = .returned (.bool true) ∧ w = w' :=
  (refInside_any (c := c) h).mono fun e w' h => by
    obtain ⟨r, rfl, hr, rfl⟩ := h
    exact ⟨by rw [hr.2 hi], rfl⟩
theorem refInside_no {D : Nat → Prop} {w : World} {a : Option Addr} {c : Nat} {l : List Int} (h : Ints D w a l) (hi : ¬ Ins l) :
    Calls Try.prog 30 #[.slice a l.length c] w fun e w' => e = .returned (.bool false) ∧ w = w' :=
  (refInside_any (c := c) h).mono fun e w' h => by
    obtain ⟨r, rfl, hr, rfl⟩ := h
    cases r
    · exact ⟨rfl, rfl⟩
    · exact absurd (hr.1 rfl) hi

theorem ProOk.zero {sk cols : List Int} {t : Int} {V : List Int} (h1 : (valM [] sk cols).2 = 0) (h2 : (valM [] sk cols).1 = t) : ProOk [] sk cols t [] V ↔ V.length = 0 := by
  refine ⟨fun h => h.lV, fun h => ?_⟩
  have hV : V = [] := List.eq_nil_of_length_eq_zero h
  subst hV
  have h0 : (valM [] sk cols).1 = 0 := by rw [(valM_prob h1).2.2.2]; rfl
  exact ⟨h1, h2, rfl, rfl, fun i hi => absurd hi (Nat.not_lt_zero i), fun i hi => absurd hi (Nat.not_lt_zero i), fun i hi => absurd hi (Nat.not_lt_zero i), fun i hi => absurd hi (Nat.not_lt_zero i), fun i hi => absurd hi (Nat.not_lt_zero i), by rw [← h2, h0]; rfl⟩

end Go.Proofs.Ytddjkmaigifomaa
