/-
  match: the laws MatchChecks and MatchValues walked.
-/
import Derived.Test.YtddjkmaigifomaaMl
import Derived.Test.YtddjkmaigifomaaMe
import Derived.Test.YtddjkmaigifomaaOpen
set_option linter.unusedVariables false
set_option linter.unusedSimpArgs false
namespace Go.Proofs.Ytddjkmaigifomaa
open Go.RowKit

/-- Small problems. -/
def Lit (C : List (List Int)) (sk : List Int) : Prop := C.length ≤ 30 ∧ sk.length ≤ 100 ∧ ∀ i, i < C.length → (rx C i).length ≤ 30
def BoolSame (P : Prop) (w : World) (e : Ending) (w' : World) : Prop := ∃ r : Bool, e = .returned (.bool r) ∧ (r = true ↔ P) ∧ w = w'
theorem BoolSame.no {P : Prop} {w : World} (h : ¬ P) : BoolSame P w (.returned (.bool false)) w := ⟨false, rfl, ⟨fun h => (by cases h), fun hp => absurd hp h⟩, rfl⟩
theorem BoolSame.yes {P : Prop} {w : World} (h : P) : BoolSame P w (.returned (.bool true)) w := ⟨true, rfl, ⟨fun _ => h, fun _ => rfl⟩, rfl⟩

set_option maxRecDepth 100000 in
set_option maxHeartbeats 1600000 in
theorem light_any {D E : Nat → Prop} {w : World} {a b : Option Addr} {c d : Nat} {C : List (List Int)} {sk : List Int} (h : Mixes D w a C) (hs : Ints E w b sk) :
    Calls Try.prog 10 #[.slice a C.length c, .slice b sk.length d] w (BoolSame (Lit C sk) w) := by
  have HC := Lib.hid h
  have lC : C.length ≤ maxLen := h.1
  have lS : sk.length ≤ maxLen := hs.1
  simp only [maxLen] at lC lS
  clear h hs
  by_cases h1 : 30 < (C.length : Int)
  · have Hn : Hid (¬ Lit C sk) := Lib.hid fun h => by have := h.1; omega
    go_enter Try.func10, Try.ntmps10
    go_wp2_with fail
    go_ret
    exact BoolSame.no Hn.out
  by_cases h2 : 100 < (sk.length : Int)
  · have Hn : Hid (¬ Lit C sk) := Lib.hid fun h => by have := h.2.1; omega
    go_enter Try.func10, Try.ntmps10
    go_wp2_with fail
    go_ret
    exact BoolSame.no Hn.out
  go_enter Try.func10, Try.ntmps10
  go_wp2_with fail
  go_loopw [5] (fun i wr => ∃ q : Nat, q ≤ C.length ∧ i = .int .i64 q ∧ (∀ i, i < q → (rx C i).length ≤ 30) ∧ Hid (wr = w)) (fun i _ => C.length - (intOf i).toNat)
  case atStart => exact ⟨0, by omega, rfl, fun i hi => absurd hi (Nat.not_lt_zero i), Lib.hid rfl⟩
  case round =>
    obtain ⟨q, hq, rfl, hok, ⟨rfl⟩⟩ := hrel
    have HO := Lib.hid hok
    clear hok
    by_cases hlt : q < C.length
    · obtain ⟨b1, o1, a1, c1, rfl, _, hc1, hI⟩ := HC.out.row (k := q) hlt
      have lr : (rx C q).length ≤ maxLen := hI.1
      simp only [maxLen] at lr
      have q1 : (q : Int) < (C.length : Int) := by omega
      clear hI
      obtain ⟨r, hr⟩ : ∃ r, (rx C q).length = r := ⟨_, rfl⟩
      rw [hr] at hc1 lr
      have Hr := Lib.hid hr
      clear hr
      by_cases h3 : 30 < (r : Int)
      · have Hn : Hid (¬ Lit C sk) := Lib.hid fun h => by have := h.2.2 q hlt; rw [Hr.out] at this; omega
        go_wp2_with fail
        go_ret
        exact BoolSame.no Hn.out
      · have H3 := Lib.hid h3
        go_wp2_with fail
        exact ⟨⟨q + 1, by omega, by go_num, fun i hi => by
          by_cases e : i = q
          · rw [e, Hr.out]; have := H3.out; omega
          · exact HO.out i (by omega), Lib.hid trivial⟩, by simp [intOf]; omega⟩
    · have Hy : Hid (Lit C sk) := Lib.hid ⟨by omega, by omega, fun i hi => HO.out i (by omega)⟩
      go_wp2_with fail
      go_ret
      exact BoolSame.yes Hy.out

theorem light_yes {D E : Nat → Prop} {w : World} {a b : Option Addr} {c d : Nat} {C : List (List Int)} {sk : List Int} (h : Mixes D w a C) (hs : Ints E w b sk) (hl : Lit C sk) :
    Calls Try.prog 10 #[.slice a C.length c, .slice b sk.length d] w fun e w' => e = .returned (.bool true) ∧ w = w' :=
  (light_any (c := c) (d := d) h hs).mono fun e w' h => by
    obtain ⟨r, rfl, hr, rfl⟩ := h
    exact ⟨by rw [hr.2 hl], rfl⟩
theorem light_no {D E : Nat → Prop} {w : World} {a b : Option Addr} {c d : Nat} {C : List (List Int)} {sk : List Int} (h : Mixes D w a C) (hs : Ints E w b sk) (hl : ¬ Lit C sk) :
    Calls Try.prog 10 #[.slice a C.length c, .slice b sk.length d] w fun e w' => e = .returned (.bool false) ∧ w = w' :=
  (light_any (c := c) (d := d) h hs).mono fun e w' h => by
    obtain ⟨r, rfl, hr, rfl⟩ := h
    cases r
    · exact ⟨rfl, rfl⟩
    · exact absurd (hr.1 rfl) hl

set_option maxRecDepth 100000 in
set_option maxHeartbeats 3200000 in
theorem matchChecks_fin (a : Option Addr) (c : Nat) (C : List (List Int)) {w : World} (hx : Mixes Any w a C) (_ : C.length ≤ c) (_ : ∀ k y, y ∈ rx C k → I64 y) (b : Option Addr) (d : Nat) (sk : List Int) (hs : Ints Any w b sk) (_ : sk.length ≤ d) (_ : ∀ x ∈ sk, I64 x) (_ : World) :
    Calls Try.prog 3 #[.slice a C.length c, .slice b sk.length d] w fun e w' => e = .returned (.bool true) ∧ Mod NoBlock w w' := by
  have HC := Lib.hid hx
  have HS := Lib.hid hs
  clear hx hs
  by_cases hl : Lit C sk
  · have Hl := Lib.hid (light_yes (c := c) (d := d) HC.out HS.out hl)
    have Hk := Lib.hid (check_any (c := c) (d := d) HC.out HS.out)
    have Hr := Lib.hid (refCheck_any (c := c) (d := d) HC.out HS.out)
    clear hl
    go_enter Try.func3, Try.ntmps3
    go_wp2_with fail
    refine Hl.out.mono ?_; rintro e w1 ⟨rfl, rfl⟩
    go_wp2_with fail
    refine Hk.out.mono ?_; rintro e w1 ⟨rfl, rfl⟩
    go_wp2_with fail
    refine Hr.out.mono ?_; rintro e w1 ⟨rfl, hd⟩
    go_wp2_with fail
    refine (awakeM_any _).mono ?_; rintro e w9 ⟨rfl, m⟩
    have M := Lib.hid (((Mod.refl NoBlock w).drawn hd).trans m)
    clear m hd
    go_wp2_with fail
    go_ret
    exact ⟨rfl, M.out⟩
  · have Hl := Lib.hid (light_no (c := c) (d := d) HC.out HS.out hl)
    clear hl
    go_enter Try.func3, Try.ntmps3
    go_wp2_with fail
    refine Hl.out.mono ?_; rintro e w1 ⟨rfl, rfl⟩
    go_wp2_with fail
    refine (awakeM_any _).mono ?_; rintro e w9 ⟨rfl, m⟩
    have M := Lib.hid m
    clear m
    go_wp2_with fail
    go_ret
    exact ⟨rfl, M.out⟩

set_option maxRecDepth 100000 in
set_option maxHeartbeats 3200000 in
theorem matchValues_fin (a : Option Addr) (c : Nat) (C : List (List Int)) {w : World} (hx : Mixes Any w a C) (_ : C.length ≤ c) (_ : ∀ k y, y ∈ rx C k → I64 y) (b : Option Addr) (d : Nat) (sk : List Int) (hs : Ints Any w b sk) (_ : sk.length ≤ d) (_ : ∀ x ∈ sk, I64 x)
    (b3 : Option Addr) (d3 : Nat) (cols : List Int) (hcl : Ints Any w b3 cols) (_ : cols.length ≤ d3) (_ : ∀ x ∈ cols, I64 x) (_ : World) :
    Calls Try.prog 5 #[.slice a C.length c, .slice b sk.length d, .slice b3 cols.length d3] w fun e w' => e = .returned (.bool true) ∧ Mod NoBlock w w' := by
  have HC := Lib.hid hx
  have HS := Lib.hid hs
  have HF := Lib.hid hcl
  clear hx hs hcl
  by_cases hl : Lit C sk
  · have Hl := Lib.hid (light_yes (c := c) (d := d) HC.out HS.out hl)
    have Hk := Lib.hid (value_any (c := c) (d := d) (c3 := d3) HC.out HS.out HF.out)
    clear hl
    go_enter Try.func5, Try.ntmps5
    go_wp2_with fail
    refine Hl.out.mono ?_; rintro e w1 ⟨rfl, rfl⟩
    go_wp2_with fail
    refine Hk.out.mono ?_; rintro e w1 ⟨rfl, m1⟩
    have Hr := Lib.hid (refValue_any (c := c) (d := d) (c3 := d3) (HC.out.frame m1) (HS.out.frame m1) (HF.out.frame m1))
    have M1 := Lib.hid m1
    clear m1
    go_wp2_with fail
    refine Hr.out.mono ?_; rintro e w2 ⟨rfl, hd⟩
    go_wp2_with fail
    refine (awakeM_any _).mono ?_; rintro e w9 ⟨rfl, m⟩
    have M := Lib.hid ((M1.out.drawn hd).trans m)
    clear m hd
    go_wp2_with fail
    go_ret
    exact ⟨rfl, M.out⟩
  · have Hl := Lib.hid (light_no (c := c) (d := d) HC.out HS.out hl)
    clear hl
    go_enter Try.func5, Try.ntmps5
    go_wp2_with fail
    refine Hl.out.mono ?_; rintro e w1 ⟨rfl, rfl⟩
    go_wp2_with fail
    refine (awakeM_any _).mono ?_; rintro e w9 ⟨rfl, m⟩
    have M := Lib.hid m
    clear m
    go_wp2_with fail
    go_ret
    exact ⟨rfl, M.out⟩

end Go.Proofs.Ytddjkmaigifomaa
