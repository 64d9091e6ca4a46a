/-
  contract: few; the laws ContractChecks, ContractSettles, ContractFits, ContractAssigns walked.
-/
import Derived.Test.YtnacoglfhhenhaaKl
import Derived.Test.YtnacoglfhhenhaaKo
import Derived.Test.YtnacoglfhhenhaaGo1
import Derived.Deep.QuietTactic
import Derived.BigQuiet
set_option linter.unusedVariables false
set_option linter.unusedSimpArgs false
namespace Go.Proofs.Ytnacoglfhhenhaa
open Go.RowKit

def Few (l : List Ctr) (g : List (Int × Int)) (bs : List Bal) : Prop := l.length ≤ 20 ∧ g.length ≤ 20 ∧ bs.length ≤ 30 ∧ ∀ k, k < bs.length → (bx bs k).mix.length ≤ 20
def FewIs (P : Prop) (w : World) (e : Ending) (w' : World) : Prop := ∃ r : Bool, e = .returned (.bool r) ∧ (r = true ↔ P) ∧ Mod NoBlock w w'
theorem FewIs.no {P : Prop} {w w' : World} (h : ¬ P) (m : Mod NoBlock w w') : FewIs P w (.returned (.bool false)) w' := ⟨false, rfl, ⟨fun h => (by cases h), fun hp => absurd hp h⟩, m⟩
theorem FewIs.yes {P : Prop} {w w' : World} (h : P) (m : Mod NoBlock w w') : FewIs P w (.returned (.bool true)) w' := ⟨true, rfl, ⟨fun _ => h, fun _ => rfl⟩, m⟩

set_option maxRecDepth 100000 in
set_option maxHeartbeats 3200000 in
theorem few_any {F : Nat → Prop} {w : World} {a aG aB : Option Addr} {c cG cB : Nat} {l : List Ctr} {g : List (Int × Int)} {bs : List Bal} (ll : l.length ≤ maxLen) (lg : g.length ≤ maxLen) (hb : Bals F w aB bs) :
    Calls Try.prog 13 #[.slice a l.length c, .slice aG g.length cG, .slice aB bs.length cB] w (FewIs (Few l g bs) w) := by
  obtain ⟨lb, bB, oB, haB, hcB⟩ := hb.open
  have HaB := Lib.hid haB
  have HcB := Lib.hid hcB
  simp only [maxLen] at ll lg
  clear haB hcB hb
  by_cases h1 : 20 < (l.length : Int)
  · have Hn : Hid (¬ Few l g bs) := Lib.hid fun h => by have := h.1; omega
    go_enter Try.func13, Try.ntmps13
    go_wp2_with fail
    go_ret
    exact FewIs.no Hn.out (Mod.refl _ _)
  by_cases h2 : 20 < (g.length : Int)
  · have Hn : Hid (¬ Few l g bs) := Lib.hid fun h => by have := h.2.1; omega
    go_enter Try.func13, Try.ntmps13
    go_wp2_with fail
    go_ret
    exact FewIs.no Hn.out (Mod.refl _ _)
  by_cases h3 : 30 < (bs.length : Int)
  · have Hn : Hid (¬ Few l g bs) := Lib.hid fun h => by have := h.2.2.1; omega
    go_enter Try.func13, Try.ntmps13
    go_wp2_with fail
    go_ret
    exact FewIs.no Hn.out (Mod.refl _ _)
  have Hb := Lib.hid (show l.length ≤ 20 ∧ g.length ≤ 20 ∧ bs.length ≤ 30 by omega)
  go_enter Try.func13, Try.ntmps13
  go_wp2_with fail
  go_loopw [24] (fun i wr => ∃ q : Nat, q ≤ bs.length ∧ i = .int .i64 q ∧ (∀ i, i < q → (bx bs i).mix.length ≤ 20) ∧ Mod NoBlock w wr) (fun i _ => bs.length - (intOf i).toNat)
  case atStart => exact ⟨0, by omega, rfl, fun i hi => absurd hi (Nat.not_lt_zero i), Mod.refl _ _⟩
  case round =>
    obtain ⟨q, hq, rfl, hok, hm⟩ := hrel
    have HO := Lib.hid hok
    have M := Lib.hid hm
    clear hok hm
    obtain ⟨wo, rfl⟩ : ∃ wo : World, wo = wr := ⟨_, rfl⟩
    by_cases hlt : q < bs.length
    · have q1 : (q : Int) < (bs.length : Int) := by omega
      obtain rfl := HaB.out (by intro e; rw [e] at hlt; simp at hlt)
      obtain ⟨a', c', k0, k1, k2, k3, hmx⟩ := (HcB.out q hlt).frame M.out
      have lm : (bx bs q).mix.length ≤ maxLen := hmx.1
      simp only [maxLen] at lm
      obtain ⟨y, hy⟩ : ∃ y, bx bs q = y := ⟨_, rfl⟩
      rw [hy] at k0 k1 k2 k3 lm
      have Hy := Lib.hid hy
      have M2 := Lib.hid (M.out.alloc (.cells #[.int .i64 y.id, .int .i64 y.mat, .int .i64 y.tm, .slice a' y.mix.length c'] 33))
      clear hy hmx
      by_cases h4 : 20 < (y.mix.length : Int)
      · have Hn : Hid (¬ Few l g bs) := Lib.hid fun h => by have := h.2.2.2 q hlt; rw [Hy.out] at this; omega
        go_wp2_with fail
        go_ret
        exact FewIs.no Hn.out M2.out
      · have H4 := Lib.hid h4
        go_wp2_with fail
        exact ⟨⟨q + 1, by omega, by go_num, fun i hi => by
          by_cases e : i = q
          · rw [e, Hy.out]; have := H4.out; omega
          · exact HO.out i (by omega), M2.out⟩, by simp [intOf]; omega⟩
    · have Hy : Hid (Few l g bs) := Lib.hid ⟨Hb.out.1, Hb.out.2.1, Hb.out.2.2, fun i hi => HO.out i (by omega)⟩
      go_wp2_with fail
      go_ret
      exact FewIs.yes Hy.out M.out

set_option maxRecDepth 100000 in
set_option maxHeartbeats 3200000 in
theorem contractChecks_fin (a : Option Addr) (c : Nat) (l : List Ctr) {w : World} (hx : Ctrs Any w a l) (hc : l.length ≤ c) (n : Int) (_ : I64 n) (_ : World) :
    Calls Try.prog 3 #[.slice a l.length c, .int .i64 n] w fun e w' => e = .returned (.bool true) ∧ Mod NoBlock w w' := by
  have ll : l.length ≤ maxLen := hx.1
  simp only [maxLen] at ll
  by_cases h1 : 20 < (l.length : Int)
  · clear hx hc
    go_enter Try.func3, Try.ntmps3
    go_wp2_with fail
    refine (awakeK_any _).mono ?_; rintro e w9 ⟨rfl, m⟩
    have M := Lib.hid m
    clear m
    go_wp2_with fail
    go_ret
    exact ⟨rfl, M.out⟩
  have Hk := Lib.hid (check52_any (n := n) hx hc)
  have Hr := Lib.hid fun (w' : World) (m : Mod NoBlock w w') => refCheck52_any (c := c) (n := n) (hx.frame m)
  generalize chkC l n = ch at Hk Hr
  clear hx hc
  go_enter Try.func3, Try.ntmps3
  go_wp2_with fail
  refine Hk.out.mono ?_; rintro e w1 ⟨rfl, m⟩
  have M1 := Lib.hid m
  have Hr1 := Lib.hid (Hr.out w1 m)
  clear m Hr Hk
  go_wp2_with fail
  refine Hr1.out.mono ?_; rintro e w2 ⟨rfl, m⟩
  have M2 := Lib.hid (M1.out.trans m)
  clear m
  go_wp2_with fail
  refine (awakeK_any _).mono ?_; rintro e w9 ⟨rfl, m⟩
  have M := Lib.hid (M2.out.trans m)
  clear m
  go_wp2_with fail
  go_ret
  exact ⟨rfl, M.out⟩

theorem rsameK (a1 a2 : Option Addr) (c1 c2 : Nat) (xs : List Int) (w : World) {D1 D2 : Nat → Prop} (hx : Ints D1 w a1 xs) (hy : Ints D2 w a2 xs) :
    Calls Try.prog 18 #[.slice a1 xs.length c1, .slice a2 xs.length c2] w fun e w' => e = .returned (.bool true) ∧ Drawn w w' := by
  have := ints52_any a1 a2 c1 c2 xs xs _ _ w hx hy
  rwa [decide_eq_true (rfl : xs = xs)] at this

set_option maxRecDepth 100000 in
set_option maxHeartbeats 6400000 in
theorem contractAssigns_fin (a : Option Addr) (c : Nat) (l : List Ctr) {w : World} (hx : Ctrs Any w a l) (hc : l.length ≤ c) (aG : Option Addr) (cG : Nat) (g : List (Int × Int)) (hg : Grs Any w aG g) (_ : g.length ≤ cG) (aB : Option Addr) (cB : Nat) (bs : List Bal) (hb : Bals Any w aB bs) (_ : bs.length ≤ cB) (_ : World) :
    Calls Try.prog 5 #[.slice a l.length c, .slice aG g.length cG, .slice aB bs.length cB] w fun e w' => e = .returned (.bool true) ∧ Mod NoBlock w w' := by
  have Hf := Lib.hid (few_any (a := a) (c := c) (aG := aG) (cG := cG) (cB := cB) hx.1 hg.1 hb)
  have HL := Lib.hid hx
  have HG := Lib.hid hg
  have HB := Lib.hid hb
  have Hc := Lib.hid hc
  clear hx hg hb hc
  go_enter Try.func5, Try.ntmps5
  go_wp2_with fail
  refine Hf.out.mono ?_; rintro e w1 ⟨r, rfl, hr, m⟩
  have M1 := Lib.hid m
  clear m Hf
  cases r
  · clear hr
    go_wp2_with fail
    refine (awakeK_any _).mono ?_; rintro e w9 ⟨rfl, m⟩
    have M := Lib.hid (M1.out.trans m)
    clear m
    go_wp2_with fail
    go_ret
    exact ⟨rfl, M.out⟩
  have hfew := hr.1 rfl
  have Ha := Lib.hid (assign_any (cG := cG) (cB := cB) (HL.out.frame M1.out) Hc.out (HG.out.frame M1.out) (HB.out.frame M1.out) (by have := hfew.2.2.1; omega))
  have Hr := Lib.hid fun (w' : World) (m : Mod NoBlock w w') => refAssign_any (c := c) (cG := cG) (cB := cB) (HL.out.frame m) (HG.out.frame m) (HB.out.frame m) (by have := hfew.2.2.1; omega)
  clear hr hfew
  go_wp2_with fail
  refine Ha.out.mono ?_; rintro e w2 ⟨aC, cC, cols, t, rfl, m, hC, hI⟩
  have M2 := Lib.hid (M1.out.trans m)
  have HC := Lib.hid hC
  have HI := Lib.hid hI
  have Hr2 := Lib.hid (Hr.out w2 M2.out)
  clear m hC hI Ha Hr
  go_wp2_with fail
  refine Hr2.out.mono ?_; rintro e w3 ⟨aC', cC', cols', t', rfl, m, hC', hI'⟩
  obtain ⟨rfl, rfl⟩ := HI.out.unique hI'
  have Hs := rsameK aC aC' cC cC' cols w3 (HC.out.frame m) hC'
  have HS := Lib.hid Hs
  have M3 := Lib.hid (M2.out.trans m)
  clear m hC' hI' Hs Hr2
  go_wp2_with fail
  refine HS.out.mono ?_; rintro e w4 ⟨rfl, hd⟩
  have M4 := Lib.hid (M3.out.drawn hd)
  clear hd HS
  go_wp2_with fail
  refine (awakeK_any _).mono ?_; rintro e w9 ⟨rfl, m⟩
  have M := Lib.hid (M4.out.trans m)
  clear m
  go_wp2_with fail
  go_ret
  exact ⟨rfl, M.out⟩

end Go.Proofs.Ytnacoglfhhenhaa
