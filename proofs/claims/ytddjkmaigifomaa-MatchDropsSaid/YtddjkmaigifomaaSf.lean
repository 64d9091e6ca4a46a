/-
  match: the law MatchDrops walked, the ways on which nothing is asked.
-/
import Derived.Test.YtddjkmaigifomaaSa
import Derived.Test.YtddjkmaigifomaaSb
import Derived.Test.YtddjkmaigifomaaMr
import Derived.Deep.QuietTactic
import Derived.BigQuiet
set_option linter.unusedVariables false
set_option linter.unusedSimpArgs false
namespace Go.Proofs.Ytddjkmaigifomaa
open Go.RowKit

set_option maxRecDepth 100000 in
set_option maxHeartbeats 12800000 in
theorem matchDrops_out (a : Option Addr) (c : Nat) (C : List (List Int)) {w : World} (hx : Mixes Any w a C) (b : Option Addr) (d : Nat) (sk : List Int) (hs : Ints Any w b sk) (col : Int)
    (hno : ¬ (Lit C sk ∧ chkM C sk = 0 ∧ 0 < C.length ∧ 0 ≤ col ∧ col < (rx C 0).length)) :
    Calls Try.prog 9 #[.slice a C.length c, .slice b sk.length d, .int .i64 col] w fun e w' => e = .returned (.bool true) ∧ Mod NoBlock w w' := by
  have HC := Lib.hid hx
  have HS := Lib.hid hs
  clear hx hs
  by_cases hl : Lit C sk
  case neg =>
    have Hl := Lib.hid (light_no (c := c) (d := d) HC.out HS.out hl)
    clear hl hno
    go_enter Try.func9, Try.ntmps9
    go_wp2_with fail
    refine Hl.out.mono ?_; rintro e w1 ⟨rfl, rfl⟩
    go_wp2_with fail
    refine (awakeM_any _).mono ?_; rintro e w9 ⟨rfl, m⟩
    have M := Lib.hid m
    clear m
    go_wp2_with fail
    go_ret
    exact ⟨rfl, M.out⟩
  have Hl := Lib.hid (light_yes (c := c) (d := d) HC.out HS.out hl)
  have hk := check_any (c := c) (d := d) HC.out HS.out
  by_cases hok : chkM C sk = 0
  case neg =>
    have hb : (chkM C sk != 0) = true := bne_iff_ne.2 hok
    have Hk := Lib.hid hk
    clear hl hok hk hno
    go_enter Try.func9, Try.ntmps9
    go_wp2_with fail
    refine Hl.out.mono ?_; rintro e w1 ⟨rfl, rfl⟩
    go_wp2_with fail
    refine Hk.out.mono ?_; rintro e w1 ⟨rfl, rfl⟩
    go_wp2_with fail
    refine (awakeM_any _).mono ?_; rintro e w9 ⟨rfl, m⟩
    have M := Lib.hid m
    clear m
    go_wp2_with fail
    go_ret
    exact ⟨rfl, M.out⟩
  rw [hok] at hk
  have Hk := Lib.hid hk
  have HP := Lib.hid (probOk hok)
  have hno2 : ¬ (0 < C.length ∧ 0 ≤ col ∧ col < (rx C 0).length) := fun h => hno ⟨hl, hok, h⟩
  have Hrow := Lib.hid fun (h : 0 < C.length) => HC.out.row (k := 0) h
  rw [HP.out.len] at Hk Hl ⊢
  clear hl hok hk hno
  generalize (rx C 0).length = k at Hrow hno2
  generalize C.length = n at Hk Hl hno2 Hrow ⊢
  by_cases h1 : n = 0
  · have nz : ((n : Int) == 0) = true := by rw [h1]; rfl
    clear hno2 h1
    go_enter Try.func9, Try.ntmps9
    go_wp2_with fail
    refine Hl.out.mono ?_; rintro e w1 ⟨rfl, rfl⟩
    go_wp2_with fail
    refine Hk.out.mono ?_; rintro e w1 ⟨rfl, rfl⟩
    go_wp2_with fail
    refine (awakeM_any _).mono ?_; rintro e w9 ⟨rfl, m⟩
    have M := Lib.hid m
    clear m
    go_wp2_with fail
    go_ret
    exact ⟨rfl, M.out⟩
  have nz : ((n : Int) == 0) = false := beq_eq_false_iff_ne.2 (by omega)
  by_cases h2 : col < 0
  · clear hno2 h1
    go_enter Try.func9, Try.ntmps9
    go_wp2_with fail
    refine Hl.out.mono ?_; rintro e w1 ⟨rfl, rfl⟩
    go_wp2_with fail
    refine Hk.out.mono ?_; rintro e w1 ⟨rfl, rfl⟩
    go_wp2_with fail
    refine (awakeM_any _).mono ?_; rintro e w9 ⟨rfl, m⟩
    have M := Lib.hid m
    clear m
    go_wp2_with fail
    go_ret
    exact ⟨rfl, M.out⟩
  have h3 : (k : Int) ≤ col := by omega
  · obtain ⟨b1, o1, a0, c0, rfl, -, hc0, -⟩ := Hrow.out (by omega)
    rw [Nat.add_zero] at hc0
    have n1 : (0 : Int) < (n : Int) := by omega
    clear hno2 h1
    go_enter Try.func9, Try.ntmps9
    go_wp2_with fail
    refine Hl.out.mono ?_; rintro e w1 ⟨rfl, rfl⟩
    go_wp2_with fail
    refine Hk.out.mono ?_; rintro e w1 ⟨rfl, rfl⟩
    go_wp2_with fail
    refine (awakeM_any _).mono ?_; rintro e w9 ⟨rfl, m⟩
    have M := Lib.hid m
    clear m
    go_wp2_with fail
    go_ret
    exact ⟨rfl, M.out⟩

end Go.Proofs.Ytddjkmaigifomaa
