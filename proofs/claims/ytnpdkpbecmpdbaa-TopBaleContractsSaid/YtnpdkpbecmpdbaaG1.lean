/-
  Several texts in one.
-/
import Derived.Test.YtnpdkpbecmpdbaaOwn
import Derived.Test.YtnpdkpbecmpdbaaRows
import Derived.Test.YtnpdkpbecmpdbaaN1
import Derived.Test.YtnpdkpbecmpdbaaV1
import Derived.RangeFuncNested
import Derived.RangeFuncBound
import Derived.RangeFuncCalls
import Derived.RangeFuncLeaves
import Derived.RangeFuncFrom
import Derived.Shelf.Abstract
import Derived.Shelf.RegionOpen
import Derived.OwnWalkIn
import Derived.TacticsInMore
import Derived.LoopNIn
import Derived.LoopIn
set_option linter.unusedVariables false
set_option linter.unusedSimpArgs false
/-
  Classes (a purity and a price each) in memory; what Check answers, in plain Lean.
-/
namespace Go.Proofs.Ytnpdkpbecmpdbaa
open Go.RowKit

def gx (l : List (Int × Int)) (k : Nat) : Int × Int := l.getD k (0, 0)
theorem gx_eq {l : List (Int × Int)} {k : Nat} (h : k < l.length) : gx l k = l[k] := by simp [gx, h]
theorem drop_gx {l : List (Int × Int)} {k : Nat} (h : k < l.length) : l.drop k = gx l k :: l.drop (k + 1) := by
  rw [List.drop_eq_getElem_cons h, gx_eq h]
theorem gx_take {l : List (Int × Int)} {i k : Nat} (h : k < i) : gx (l.take i) k = gx l k := by simp [gx, List.getElem?_take, h]

/-- The classes l lie at the address a, two cells each. -/
def Grs (D : Nat → Prop) (w : World) (a : Option Addr) (l : List (Int × Int)) : Prop :=
  l.length ≤ maxLen ∧ (l ≠ [] → ∃ b off, a = some ⟨b, off, Option.none⟩ ∧ D b ∧ ∀ k, k < l.length → w.cell? ⟨b, off + k * 2, Option.none⟩ = some (.int .i64 (gx l k).1) ∧ w.cell? ⟨b, off + k * 2 + 1, Option.none⟩ = some (.int .i64 (gx l k).2))

section
variable {D : Nat → Prop} {w w' : World} {a : Option Addr} {l : List (Int × Int)}
theorem Grs.open (h : Grs D w a l) :
    l.length ≤ 9223372036854775807 ∧ ∃ b off, (l ≠ [] → a = some ⟨b, off, Option.none⟩) ∧ ∀ k, k < l.length → w.cell? ⟨b, off + k * 2, Option.none⟩ = some (.int .i64 (gx l k).1) ∧ w.cell? ⟨b, off + k * 2 + 1, Option.none⟩ = some (.int .i64 (gx l k).2) := by
  refine ⟨h.1, ?_⟩
  by_cases hx : l = []
  · subst hx; exact ⟨0, 0, fun h => absurd rfl h, fun k hk => absurd hk (by simp)⟩
  · obtain ⟨b, off, ha, _, hc⟩ := h.2 hx
    exact ⟨b, off, fun _ => ha, hc⟩
theorem Grs.frame (h : Grs D w a l) (m : Mod NoBlock w w') : Grs D w' a l :=
  ⟨h.1, fun hx => by
    obtain ⟨b, off, ha, hD, hc⟩ := h.2 hx
    exact ⟨b, off, ha, hD, fun k hk => ⟨m.cell (hc k hk).1 id, m.cell (hc k hk).2 id⟩⟩⟩
theorem Grs.mono {D' : Nat → Prop} (h : Grs D w a l) (hd : ∀ b, D b → D' b) : Grs D' w a l :=
  ⟨h.1, fun hx => by
    obtain ⟨b, off, ha, hD, hc⟩ := h.2 hx
    exact ⟨b, off, ha, hd b hD, hc⟩⟩
theorem Grs.take (h : Grs D w a l) (i : Nat) : Grs D w a (l.take i) := by
  refine ⟨by have := h.1; rw [List.length_take]; omega, fun hx => ?_⟩
  obtain ⟨b, off, ha, hD, hc⟩ := h.2 (by intro e; subst e; simp at hx)
  refine ⟨b, off, ha, hD, fun k hk => ?_⟩
  rw [List.length_take] at hk
  rw [gx_take (by omega)]
  exact hc k (by omega)
end

def badG (x : Int × Int) : Bool := decide (x.1 < 0) || (decide (1000 < x.1) || (decide (x.2 < -1000000) || decide (1000000 < x.2)))
theorem badG_true {x : Int × Int} : badG x = true ↔ x.1 < 0 ∨ 1000 < x.1 ∨ x.2 < -1000000 ∨ 1000000 < x.2 := by simp [badG]
theorem badG_false {x : Int × Int} : badG x = false ↔ ¬ (x.1 < 0 ∨ 1000 < x.1 ∨ x.2 < -1000000 ∨ 1000000 < x.2) := by rw [← badG_true]; simp
/-- Whether class i + 1 is not behind class i. -/
def stepG (l : List (Int × Int)) (i : Nat) : Bool := decide ((gx l i).1 ≤ (gx l (i + 1)).1) || decide ((gx l i).2 < (gx l (i + 1)).2)
theorem stepG_true {l : List (Int × Int)} {i : Nat} : stepG l i = true ↔ (gx l i).1 ≤ (gx l (i + 1)).1 ∨ (gx l i).2 < (gx l (i + 1)).2 := by simp [stepG]
theorem stepG_false {l : List (Int × Int)} {i : Nat} : stepG l i = false ↔ ¬ ((gx l i).1 ≤ (gx l (i + 1)).1 ∨ (gx l i).2 < (gx l (i + 1)).2) := by rw [← stepG_true]; simp
def unTo (l : List (Int × Int)) (k : Nat) : Bool := (List.range k).any (stepG l)
theorem unTo_succ (l : List (Int × Int)) (k : Nat) : unTo l (k + 1) = (unTo l k || stepG l k) := by simp [unTo, List.range_succ]
theorem unTo_of {l : List (Int × Int)} {i k : Nat} (hik : i < k) (h : stepG l i = true) : unTo l k = true := by
  unfold unTo
  rw [List.any_eq_true]
  exact ⟨i, List.mem_range.2 hik, h⟩
theorem unTo_false {l : List (Int × Int)} {i k : Nat} (h : unTo l k = false) (hik : i < k) : stepG l i = false := by
  unfold unTo at h
  rw [List.any_eq_false] at h
  simpa using h i (List.mem_range.2 hik)
/-- The error of a list of classes. -/
def chkG (l : List (Int × Int)) : Int := if l.length = 0 then 10 else if 8 < l.length then 8 else if l.any badG then 1 else if unTo l (l.length - 1) then 9 else 0
theorem chkG_nil {l : List (Int × Int)} (h : l.length = 0) : chkG l = 10 := if_pos h
theorem chkG_long {l : List (Int × Int)} (h : 8 < l.length) : chkG l = 8 := by unfold chkG; rw [if_neg (by omega), if_pos h]
theorem chkG_bad {l : List (Int × Int)} (h0 : ¬ l.length = 0) (h8 : ¬ 8 < l.length) (hb : l.any badG = true) : chkG l = 1 := by unfold chkG; rw [if_neg h0, if_neg h8, if_pos hb]
theorem chkG_fine {l : List (Int × Int)} (h0 : ¬ l.length = 0) (h8 : ¬ 8 < l.length) (hb : l.any badG = false) : chkG l = if unTo l (l.length - 1) then 9 else 0 := by unfold chkG; rw [if_neg h0, if_neg h8, hb]; rfl
theorem chkG_facts {l : List (Int × Int)} (h : chkG l = 0) : 1 ≤ l.length ∧ l.length ≤ 8 ∧ (∀ k, k < l.length → 0 ≤ (gx l k).1 ∧ (gx l k).1 ≤ 1000 ∧ -1000000 ≤ (gx l k).2 ∧ (gx l k).2 ≤ 1000000) ∧ ∀ k, k + 1 < l.length → (gx l (k + 1)).1 < (gx l k).1 ∧ (gx l (k + 1)).2 ≤ (gx l k).2 := by
  unfold chkG at h
  split at h
  · exact absurd h (by decide)
  · next h0 =>
    split at h
    · exact absurd h (by decide)
    · next h8 =>
      split at h
      · exact absurd h (by decide)
      · next hb =>
        split at h
        · exact absurd h (by decide)
        · next hu =>
          refine ⟨by omega, by omega, fun k hk => ?_, fun k hk => ?_⟩
          · have : badG (gx l k) = false := by
              rw [gx_eq hk]
              cases hc : badG l[k]
              · rfl
              · exact absurd (List.any_eq_true.2 ⟨_, List.getElem_mem hk, hc⟩) hb
            have := badG_false.1 this
            omega
          · have hu' : unTo l (l.length - 1) = false := by simpa using hu
            have := stepG_false.1 (unTo_false hu' (i := k) (by omega))
            omega

end Go.Proofs.Ytnpdkpbecmpdbaa

/-
  grade.Check, Better; the reference's.
-/
namespace Go.Proofs.Ytnpdkpbecmpdbaa
open Go.RowKit

set_option maxRecDepth 100000 in
set_option maxHeartbeats 1600000 in
theorem gradeCheck_any (a : Option Addr) (c : Nat) (l : List (Int × Int)) (D : Nat → Prop) (w : World) (hx : Grs D w a l) :
    Calls Try.prog 35 #[.slice a l.length c] w fun e w' => e = .returned (.int .i64 (chkG l)) ∧ Mod NoBlock w w' := by
  obtain ⟨lx, b, o, ha, hc⟩ := hx.open
  have Ha := Lib.hid ha
  have Hc := Lib.hid hc
  clear hx ha hc
  by_cases h0 : l.length = 0
  · have E := Lib.hid (chkG_nil h0)
    have h0' : ((l.length : Int) == 0) = true := by rw [beq_iff_eq]; omega
    clear h0
    go_enter Try.func35, Try.ntmps35
    go_wp2
    go_ret
    exact ⟨ret_int E.out.symm, Mod.refl _ _⟩
  have h0' : ((l.length : Int) == 0) = false := by rw [beq_eq_false_iff_ne]; omega
  by_cases hl : 8 < l.length
  · have E := Lib.hid (chkG_long hl)
    clear h0
    go_enter Try.func35, Try.ntmps35
    go_wp2
    go_ret
    exact ⟨ret_int E.out.symm, Mod.refl _ _⟩
  have hl1 : 1 ≤ l.length := by omega
  have Ebad := Lib.hid (fun hf => chkG_bad h0 hl hf)
  have Eok := Lib.hid (fun hf => chkG_fine h0 hl hf)
  clear h0
  go_enter Try.func35, Try.ntmps35
  go_wp2
  go_loopw [4, 14] (fun p i wr => ∃ k : Nat, k ≤ l.length ∧ i = .int .i64 k ∧ (l.drop k).any badG = l.any badG ∧ Mod NoBlock w wr) (fun _ i _ => l.length - (intOf i).toNat)
  case atStart => exact ⟨0, by omega, rfl, rfl, Mod.refl _ _⟩
  case round =>
    obtain ⟨k, hk, rfl, hr, hm⟩ := hrel
    have Hr := Lib.hid hr
    have Hm := Lib.hid hm
    clear hr hm
    by_cases hlt : k < l.length
    · have h1 := Hm.out.cell (Hc.out k hlt).1 (fun h => h)
      have h2 := Hm.out.cell (Hc.out k hlt).2 (fun h => h)
      obtain rfl := Ha.out (by intro h; simp [h] at hlt)
      have e := Lib.hid (show (l.drop k).any badG = (badG (gx l k) || (l.drop (k + 1)).any badG) by rw [drop_gx hlt]; rfl)
      have Hb := Lib.hid (badG_true (x := gx l k))
      have Hg := Lib.hid (badG_false (x := gx l k))
      generalize gx l k = g at *
      obtain ⟨p, q⟩ := g
      have Hbad := Lib.hid (fun (h : p < 0 ∨ 1000 < p ∨ q < -1000000 ∨ 1000000 < q) => Ebad.out (by rw [← Hr.out, e.out, Hb.out.2 h]; rfl))
      by_cases c1 : p < 0
      · have H := Lib.hid (Hbad.out (.inl c1))
        go_wp2
        go_ret
        exact ⟨ret_int H.out.symm, Hm.out.alloc _⟩
      by_cases c2 : 1000 < p
      · have H := Lib.hid (Hbad.out (.inr (.inl c2)))
        go_wp2
        go_ret
        exact ⟨ret_int H.out.symm, Hm.out.alloc _⟩
      by_cases c3 : q < -1000000
      · have H := Lib.hid (Hbad.out (.inr (.inr (.inl c3))))
        go_wp2
        go_ret
        exact ⟨ret_int H.out.symm, Hm.out.alloc _⟩
      by_cases c4 : 1000000 < q
      · have H := Lib.hid (Hbad.out (.inr (.inr (.inr c4))))
        go_wp2
        go_ret
        exact ⟨ret_int H.out.symm, Hm.out.alloc _⟩
      · have H := Lib.hid (Hg.out.2 (show ¬ (p < 0 ∨ 1000 < p ∨ q < -1000000 ∨ 1000000 < q) by omega))
        go_wp2
        exact ⟨⟨k + 1, by omega, by go_num, by rw [← Hr.out, e.out, H.out]; rfl, Hm.out.alloc _⟩, by simp [intOf]; omega⟩
    · have hf : l.any badG = false := by rw [← Hr.out, List.drop_eq_nil_of_le (by omega)]; rfl
      have E := Lib.hid (Eok.out hf)
      clear hf
      go_wp2
      go_loopw [5] (fun i wr => ∃ k : Nat, k + 1 ≤ l.length ∧ i = .int .i64 ((k : Int) + 1) ∧ unTo l k = false ∧ Mod NoBlock w wr) (fun i _ => l.length - (intOf i).toNat)
      case atStart => exact ⟨0, hl1, rfl, rfl, Hm.out⟩
      case round =>
        obtain ⟨j, hj, rfl, hd, hm2⟩ := hrel
        have Hd := Lib.hid hd
        have Hm2 := Lib.hid hm2
        clear hd hm2
        by_cases hjl : j + 1 < l.length
        · have h1 := Hm2.out.cell (Hc.out j (by omega)).1 (fun h => h)
          have h2 := Hm2.out.cell (Hc.out j (by omega)).2 (fun h => h)
          have h3 := Hm2.out.cell (Hc.out (j + 1) hjl).1 (fun h => h)
          have h4 := Hm2.out.cell (Hc.out (j + 1) hjl).2 (fun h => h)
          obtain rfl := Ha.out (by intro h; simp [h] at hjl)
          have Hst := Lib.hid (stepG_true (l := l) (i := j))
          have Hsf := Lib.hid (stepG_false (l := l) (i := j))
          obtain ⟨p, hp⟩ : ∃ p, (gx l j).1 = p := ⟨_, rfl⟩
          obtain ⟨q, hq⟩ : ∃ p, (gx l j).2 = p := ⟨_, rfl⟩
          obtain ⟨p', hp'⟩ : ∃ p, (gx l (j + 1)).1 = p := ⟨_, rfl⟩
          obtain ⟨q', hq'⟩ : ∃ p, (gx l (j + 1)).2 = p := ⟨_, rfl⟩
          rw [hp] at h1 Hst Hsf
          rw [hq] at h2 Hst Hsf
          rw [hp'] at h3 Hst Hsf
          rw [hq'] at h4 Hst Hsf
          have e1 : IntKind.i64.wrap ((j : Int) + 1 - 1) = (j : Int) := by rw [IntWalk.i64_in _ (by omega)]; omega
          have e2 : ((j : Int) + 1).toNat = j + 1 := by omega
          have b1 : (0 : Int) ≤ (j : Int) + 1 := by omega
          have b2 : (j : Int) + 1 < (l.length : Int) := by omega
          have b3 : (0 : Int) ≤ (j : Int) := by omega
          have b4 : (j : Int) < (l.length : Int) := by omega
          clear hp hq hp' hq'
          by_cases t1 : p ≤ p'
          · have Hdup := Lib.hid (unTo_of (k := l.length - 1) (by omega) (Hst.out.2 (.inl t1)))
            have d1 : decide (p ≤ p') = true := decide_eq_true t1
            go_wp2
            go_quiet (fail)
            go_wp2
            go_ret
            exact ⟨ret_int (by rw [E.out, Hdup.out]; rfl), Hm2.out.drewN _⟩
          have d1 : decide (p ≤ p') = false := decide_eq_false t1
          by_cases t2 : q < q'
          · have Hdup := Lib.hid (unTo_of (k := l.length - 1) (by omega) (Hst.out.2 (.inr t2)))
            have d2 : decide (q < q') = true := decide_eq_true t2
            go_wp2
            go_quiet (fail)
            go_wp2
            go_ret
            exact ⟨ret_int (by rw [E.out, Hdup.out]; rfl), Hm2.out.drewN _⟩
          · have Hs := Lib.hid (Hsf.out.2 (by omega))
            have d2 : decide (q < q') = false := decide_eq_false t2
            go_wp2
            go_quiet (fail)
            go_wp2
            exact ⟨⟨j + 1, by omega, by go_num, by rw [unTo_succ, Hd.out, Hs.out]; rfl, Hm2.out.drewN _⟩, by simp [intOf]; omega⟩
        · have hjj : j = l.length - 1 := by omega
          have Hd2 := Lib.hid (show unTo l (l.length - 1) = false by rw [← hjj]; exact Hd.out)
          clear hjj
          go_wp2
          go_ret
          exact ⟨ret_int (by rw [E.out, Hd2.out]; rfl), Hm2.out⟩

set_option maxRecDepth 100000 in
set_option maxHeartbeats 1600000 in
theorem refGrades_any (a : Option Addr) (c : Nat) (l : List (Int × Int)) (D : Nat → Prop) (w : World) (hx : Grs D w a l) :
    Calls Try.prog 14 #[.slice a l.length c] w fun e w' => e = .returned (.int .i64 (chkG l)) ∧ Drawn w w' := by
  obtain ⟨lx, b, o, ha, hc⟩ := hx.open
  have Ha := Lib.hid ha
  have Hc := Lib.hid hc
  clear hx ha hc
  by_cases h0 : l.length = 0
  · have E := Lib.hid (chkG_nil h0)
    have h0' : ((l.length : Int) == 0) = true := by rw [beq_iff_eq]; omega
    clear h0
    go_enter Try.func14, Try.ntmps14
    go_wp2
    go_ret
    exact ⟨ret_int E.out.symm, Drawn.refl _⟩
  have h0' : ((l.length : Int) == 0) = false := by rw [beq_eq_false_iff_ne]; omega
  by_cases hl : 8 < l.length
  · have E := Lib.hid (chkG_long hl)
    clear h0
    go_enter Try.func14, Try.ntmps14
    go_wp2
    go_ret
    exact ⟨ret_int E.out.symm, Drawn.refl _⟩
  have hl1 : 1 ≤ l.length := by omega
  have Ebad := Lib.hid (fun hf => chkG_bad h0 hl hf)
  have Eok := Lib.hid (fun hf => chkG_fine h0 hl hf)
  clear h0
  go_enter Try.func14, Try.ntmps14
  go_wp2
  go_loop [3] (fun i => ∃ k : Nat, k ≤ l.length ∧ i = .int .i64 k ∧ (l.drop k).any badG = l.any badG) (fun i => l.length - (intOf i).toNat)
  case atStart => exact ⟨0, by omega, rfl, rfl⟩
  case round =>
    obtain ⟨k, hk, rfl, hr⟩ := hrel
    have Hr := Lib.hid hr
    clear hr
    by_cases hlt : k < l.length
    · have h1 := (Hc.out k hlt).1
      have h2 := (Hc.out k hlt).2
      obtain rfl := Ha.out (by intro h; simp [h] at hlt)
      have e := Lib.hid (show (l.drop k).any badG = (badG (gx l k) || (l.drop (k + 1)).any badG) by rw [drop_gx hlt]; rfl)
      have Hb := Lib.hid (badG_true (x := gx l k))
      have Hg := Lib.hid (badG_false (x := gx l k))
      generalize gx l k = g at *
      obtain ⟨p, q⟩ := g
      have Hbad := Lib.hid (fun (h : p < 0 ∨ 1000 < p ∨ q < -1000000 ∨ 1000000 < q) => Ebad.out (by rw [← Hr.out, e.out, Hb.out.2 h]; rfl))
      by_cases c1 : p < 0
      · have H := Lib.hid (Hbad.out (.inl c1))
        go_wp2
        go_ret
        exact ⟨ret_int H.out.symm, Drawn.refl _⟩
      by_cases c2 : 1000 < p
      · have H := Lib.hid (Hbad.out (.inr (.inl c2)))
        go_wp2
        go_ret
        exact ⟨ret_int H.out.symm, Drawn.refl _⟩
      by_cases c3 : q < -1000000
      · have H := Lib.hid (Hbad.out (.inr (.inr (.inl c3))))
        go_wp2
        go_ret
        exact ⟨ret_int H.out.symm, Drawn.refl _⟩
      by_cases c4 : 1000000 < q
      · have H := Lib.hid (Hbad.out (.inr (.inr (.inr c4))))
        go_wp2
        go_ret
        exact ⟨ret_int H.out.symm, Drawn.refl _⟩
      · have H := Lib.hid (Hg.out.2 (show ¬ (p < 0 ∨ 1000 < p ∨ q < -1000000 ∨ 1000000 < q) by omega))
        go_wp2
        exact ⟨⟨k + 1, by omega, by go_num, by rw [← Hr.out, e.out, H.out]; rfl⟩, by simp [intOf]; omega⟩
    · have hf : l.any badG = false := by rw [← Hr.out, List.drop_eq_nil_of_le (by omega)]; rfl
      have E := Lib.hid (Eok.out hf)
      clear hf
      go_wp2
      go_loopw [4] (fun i wr => ∃ k : Nat, k + 1 ≤ l.length ∧ i = .int .i64 ((k : Int) + 1) ∧ unTo l k = false ∧ ∃ n, wr = w.drewN n) (fun i _ => l.length - (intOf i).toNat)
      case atStart => exact ⟨0, hl1, rfl, rfl, 0, rfl⟩
      case round =>
        obtain ⟨j, hj, rfl, hd, n, rfl⟩ := hrel
        have Hd := Lib.hid hd
        clear hd
        by_cases hjl : j + 1 < l.length
        · have h1 := (Hc.out j (by omega)).1
          have h2 := (Hc.out j (by omega)).2
          have h3 := (Hc.out (j + 1) hjl).1
          have h4 := (Hc.out (j + 1) hjl).2
          obtain rfl := Ha.out (by intro h; simp [h] at hjl)
          have Hst := Lib.hid (stepG_true (l := l) (i := j))
          have Hsf := Lib.hid (stepG_false (l := l) (i := j))
          obtain ⟨p, hp⟩ : ∃ p, (gx l j).1 = p := ⟨_, rfl⟩
          obtain ⟨q, hq⟩ : ∃ p, (gx l j).2 = p := ⟨_, rfl⟩
          obtain ⟨p', hp'⟩ : ∃ p, (gx l (j + 1)).1 = p := ⟨_, rfl⟩
          obtain ⟨q', hq'⟩ : ∃ p, (gx l (j + 1)).2 = p := ⟨_, rfl⟩
          rw [hp] at h1 Hst Hsf
          rw [hq] at h2 Hst Hsf
          rw [hp'] at h3 Hst Hsf
          rw [hq'] at h4 Hst Hsf
          have e1 : IntKind.i64.wrap ((j : Int) + 1 - 1) = (j : Int) := by rw [IntWalk.i64_in _ (by omega)]; omega
          have e2 : ((j : Int) + 1).toNat = j + 1 := by omega
          have b1 : (0 : Int) ≤ (j : Int) + 1 := by omega
          have b2 : (j : Int) + 1 < (l.length : Int) := by omega
          have b3 : (0 : Int) ≤ (j : Int) := by omega
          have b4 : (j : Int) < (l.length : Int) := by omega
          clear hp hq hp' hq'
          by_cases t1 : p ≤ p'
          · have Hdup := Lib.hid (unTo_of (k := l.length - 1) (by omega) (Hst.out.2 (.inl t1)))
            have d1 : decide (p ≤ p') = true := decide_eq_true t1
            go_wp2
            go_quiet (fail)
            go_wp2
            go_ret
            exact ⟨ret_int (by rw [E.out, Hdup.out]; rfl), (Drawn.mk _ _).trans (Drawn.mk _ _)⟩
          have d1 : decide (p ≤ p') = false := decide_eq_false t1
          by_cases t2 : q < q'
          · have Hdup := Lib.hid (unTo_of (k := l.length - 1) (by omega) (Hst.out.2 (.inr t2)))
            have d2 : decide (q < q') = true := decide_eq_true t2
            go_wp2
            go_quiet (fail)
            go_wp2
            go_ret
            exact ⟨ret_int (by rw [E.out, Hdup.out]; rfl), (Drawn.mk _ _).trans (Drawn.mk _ _)⟩
          · have Hs := Lib.hid (Hsf.out.2 (by omega))
            have d2 : decide (q < q') = false := decide_eq_false t2
            go_wp2
            go_quiet (fail)
            go_wp2
            exact ⟨⟨j + 1, by omega, by go_num, by rw [unTo_succ, Hd.out, Hs.out]; rfl, _, rfl⟩, by simp [intOf]; omega⟩
        · have hjj : j = l.length - 1 := by omega
          have Hd2 := Lib.hid (show unTo l (l.length - 1) = false by rw [← hjj]; exact Hd.out)
          clear hjj
          go_wp2
          go_ret
          exact ⟨ret_int (by rw [E.out, Hd2.out]; rfl), Drawn.mk _ _⟩

end Go.Proofs.Ytnpdkpbecmpdbaa

/-
  grade.Better, Price; the reference's.
-/
namespace Go.Proofs.Ytnpdkpbecmpdbaa
open Go.RowKit

def betterB (l : List (Int × Int)) (x y : Int) : Bool := decide (chkG l = 0) && (decide (0 ≤ x) && (decide (x ≤ y) && decide (y < (l.length : Int))))
def prcG (l : List (Int × Int)) (x y : Int) : Int × Int :=
  if chkG l = 0 then if x < 0 ∨ (l.length : Int) ≤ x then (0, 7) else if y < 0 ∨ 70368744177664 < y then (0, 1) else scaleN y (gx l x.toNat).2 1000000 2 else (0, chkG l)

theorem refGrades_mod (a : Option Addr) (c : Nat) (l : List (Int × Int)) (D : Nat → Prop) (w : World) (hx : Grs D w a l) :
    Calls Try.prog 14 #[.slice a l.length c] w fun e w' => e = .returned (.int .i64 (chkG l)) ∧ Mod NoBlock w w' :=
  (refGrades_any a c l D w hx).mono fun e w' ⟨h1, h2⟩ => ⟨h1, (Mod.refl _ _).drawn h2⟩
set_option maxHeartbeats 800000 in
theorem gradeBetter_any (a : Option Addr) (c : Nat) (l : List (Int × Int)) (x y : Int) (D : Nat → Prop) (w : World) (hx : Grs D w a l) :
    Calls Try.prog 21 #[.slice a l.length c, .int .i64 x, .int .i64 y] w fun e w' => e = .returned (.bool (betterB l x y)) ∧ Mod NoBlock w w' := by
  have Hc := Lib.hid (gradeCheck_any a c l D w hx)
  have hlx := hx.open.1
  clear hx
  by_cases h : chkG l = 0
  · have H := Lib.hid h
    have E := Lib.hid (show betterB l x y = (decide (0 ≤ x) && (decide (x ≤ y) && decide (y < (l.length : Int)))) by unfold betterB; rw [h]; rfl)
    clear h
    by_cases t1 : 0 ≤ x
    · by_cases t2 : x ≤ y
      · by_cases t3 : y < (l.length : Int)
        all_goals
          go_enter Try.func21, Try.ntmps21
          go_wp2_with (go_at_call 35; refine Hc.out.mono ?_; rintro e w1 ⟨rfl, m⟩; rw [H.out]; have M := Lib.hid m; clear m)
          go_ret
          exact ⟨ret_bool (by rw [E.out]; simp [*]), M.out⟩
      · go_enter Try.func21, Try.ntmps21
        go_wp2_with (go_at_call 35; refine Hc.out.mono ?_; rintro e w1 ⟨rfl, m⟩; rw [H.out]; have M := Lib.hid m; clear m)
        go_ret
        exact ⟨ret_bool (by rw [E.out, decide_eq_false (show ¬ x ≤ y by omega)]; simp), M.out⟩
    · go_enter Try.func21, Try.ntmps21
      go_wp2_with (go_at_call 35; refine Hc.out.mono ?_; rintro e w1 ⟨rfl, m⟩; rw [H.out]; have M := Lib.hid m; clear m)
      go_ret
      exact ⟨ret_bool (by rw [E.out, decide_eq_false (show ¬ 0 ≤ x by omega)]; simp), M.out⟩
  · have hne : (chkG l == 0) = false := by simpa using h
    have E := Lib.hid (show betterB l x y = false by unfold betterB; rw [decide_eq_false h]; rfl)
    clear h
    go_enter Try.func21, Try.ntmps21
    go_wp2_with (go_at_call 35; refine Hc.out.mono ?_; rintro e w1 ⟨rfl, m⟩; have M := Lib.hid m; clear m)
    go_ret
    exact ⟨ret_bool E.out.symm, M.out⟩

end Go.Proofs.Ytnpdkpbecmpdbaa

/-
  The reference's Of and Worth; what they compute.
-/
namespace Go.Proofs.Ytnpdkpbecmpdbaa
open Go.RowKit

/-- The first class that a purity reaches, counted from k on; -1 if there is none. -/
def classAt (l : List (Int × Int)) (p k : Int) : Int := match l with | [] => -1 | g :: r => if g.1 ≤ p then k else classAt r p (k + 1)
theorem classAt_bound (l : List (Int × Int)) (p k : Int) (hk : 0 ≤ k) : classAt l p k = -1 ∨ (k ≤ classAt l p k ∧ classAt l p k < k + l.length) := by
  induction l generalizing k with
  | nil => exact .inl rfl
  | cons g r ih =>
    unfold classAt
    split
    · exact .inr ⟨Int.le_refl _, by simp; omega⟩
    · rcases ih (k + 1) (by omega) with h | ⟨h1, h2⟩
      · exact .inl h
      · exact .inr ⟨by omega, by simp; omega⟩
/-- The class of a mix, or the error. -/
def ofG (l : List (Int × Int)) (xs : List Int) (i : Int) : Int × Int :=
  if chkG l = 0 then if (purL xs i).2 = 0 then if classAt l (purL xs i).1 0 = -1 then (0, 25) else (classAt l (purL xs i).1 0, 0) else (0, (purL xs i).2) else (0, chkG l)

end Go.Proofs.Ytnpdkpbecmpdbaa

/-
  grade.reached: the classes that a purity reaches, as an iterator.
-/
namespace Go.Proofs.Ytnpdkpbecmpdbaa
open Go.RowKit Go.Shelf
attribute [local go_sem] Oper.semAt_some

/-- The first k classes that are reached. -/
def upR (l : List (Int × Int)) (P : Int) (k : Nat) : List Nat := (List.range k).filter fun j => decide ((gx l j).1 ≤ P)
theorem upR_yes {l : List (Int × Int)} {P : Int} {k : Nat} (h : (gx l k).1 ≤ P) : upR l P (k + 1) = upR l P k ++ [k] := by simp [upR, List.range_succ, List.filter_append, h]
theorem upR_no {l : List (Int × Int)} {P : Int} {k : Nat} (h : ¬ (gx l k).1 ≤ P) : upR l P (k + 1) = upR l P k := by simp [upR, List.range_succ, List.filter_append, h]
theorem upR_length (l : List (Int × Int)) (P : Int) (k : Nat) : (upR l P k).length ≤ k := by
  have := List.length_filter_le (fun j => decide ((gx l j).1 ≤ P)) (List.range k)
  simpa [upR] using this

set_option maxRecDepth 100000 in
set_option maxHeartbeats 1000000 in
theorem reached1_in (F : Fence) (n : Nat) (h8 : F.fn 60) (hro : F.round = none) (hn : 1 ≤ n) (ly Bs Bp n₀ b off len cap : Nat) (P : Int) (l : List (Int × Int)) (hlen : l.length = len) (h63 : len ≤ 9223372036854775807) (hb : b < n₀) (hBs : Bs < n₀) (hBp : Bp < n₀) (J Jx : List Nat → World → Prop) (W : World) (hn0 : n₀ ≤ W.heap.size)
    (hJ : AbidesFrom W.heap.size J)
    (hY : ∀ pre x W1, J pre W1 → pre.length < len → YieldAt F (n - 1) Try.prog ly #[.int .i64 ((x : Nat) : Int)] W1 fun e W' =>
      (e = .returned (.bool true) ∧ J (pre ++ [x]) W' ∧ Below n₀ W1 W') ∨ (e = .returned (.bool false) ∧ Jx (pre ++ [x]) W'))
    (hc0 : W.cell? ⟨Bs, 0, none⟩ = some (.slice (some ⟨b, off, none⟩) len cap)) (hp0 : W.cell? ⟨Bp, 0, none⟩ = some (.int .i64 P)) (hc : ∀ j, j < len → W.cell? ⟨b, off + j * 2, none⟩ = some (.int .i64 (gx l j).1) ∧ W.cell? ⟨b, off + j * 2 + 1, none⟩ = some (.int .i64 (gx l j).2)) (h0 : J [] W) :
    CallsIn F n Try.prog 60 #[.func (.yield ly) #[] #[], .pointer (some ⟨Bs, 0, none⟩), .pointer (some ⟨Bp, 0, none⟩)] W fun e W' => (∃ v, e = .returned v) ∧
      ((∃ ys, ys = upR l P len ∧ J ys W') ∨ (∃ pre, (∃ k, k ≤ len ∧ pre = upR l P k) ∧ Jx pre W')) := by
  refine callsIn_of_wp Try.func60 rfl h8 ?_ hro
  simp only [Try.ntmps60, List.size_toArray, List.length_cons, List.length_nil, Nat.reduceAdd, Nat.reduceSub, Array.replicate_succ, Array.replicate_zero, List.push_toArray, List.append_toArray, List.nil_append, List.cons_append]
  gi_wp2
  gi_loopw [4, 5, 8] (fun u v i wr => ∃ k : Nat, k ≤ len ∧ i = .int .i64 k ∧ J (upR l P k) wr ∧ Below n₀ W wr)
    (fun _ _ i _ => len - (intOf i).toNat)
  case atStart => exact ⟨0, Nat.zero_le _, rfl, h0, Below.refl _ _⟩
  case round =>
    obtain ⟨k, hk, rfl, hJs, hnx⟩ := hrel
    by_cases hlt : k < len
    · have g1 := (hnx.cell (p := ⟨b, off + k * 2, none⟩) hb).trans (hc k hlt).1
      have g2 := (hnx.cell (p := ⟨b, off + k * 2 + 1, none⟩) hb).trans (hc k hlt).2
      have g3 := (hnx.cell (p := ⟨Bp, 0, none⟩) hBp).trans hp0
      have hyes := fun h => upR_yes (l := l) (P := P) (k := k) h
      have hno := fun h => upR_no (l := l) (P := P) (k := k) h
      have Hyes := Lib.hid hyes
      have Hno := Lib.hid hno
      have Hlen := Lib.hid (upR_length l P k)
      clear hyes hno
      generalize (gx l k).1 = g at *
      generalize (gx l k).2 = q at *
      have hsz := hnx.size
      have hp9 : (wr.alloc (.cells #[.int .i64 g, .int .i64 q] 83)).cell? ⟨Bp, 0, none⟩ = some (.int .i64 P) := (Mod.refl NoBlock wr |>.alloc _).cell g3 (fun h => h)
      have hJ9 : J (upR l P k) (wr.alloc (.cells #[.int .i64 g, .int .i64 q] 83)) := hJ _ _ _ none hJs (World.grownBy_alloc wr _ none) (fun r e => by cases e)
      have hB9 : Below n₀ W (wr.alloc (.cells #[.int .i64 g, .int .i64 q] 83)) := hnx.alloc (by omega) _
      by_cases hg : g ≤ P
      · obtain ⟨fn, tmps, assign, body, hy, hR⟩ := hY _ k _ hJ9 (by have := Hlen.out; omega)
        try dsimp only at hy
        have d1 : decide (g ≤ P) = true := decide_eq_true hg
        have HB9 := Lib.hid hB9
        clear hJ9 hB9 hJs
        gi_wp2
        refine hR.mono ?_
        rintro e W3 (⟨rfl, hJ3, hk3⟩ | ⟨rfl, hJx3⟩)
        · rw [← Hyes.out hg] at hJ3
          have HJ3 := Lib.hid hJ3
          have HK3 := Lib.hid hk3
          clear hJ3 hk3
          gi_wp2
          go_roundw
          case rel => exact ⟨k + 1, by omega, by go_num, HJ3.out, HB9.out.trans HK3.out⟩
          case measure => simp [intOf]; omega
        · rw [← Hyes.out hg] at hJx3
          have HJ3 := Lib.hid hJx3
          clear hJx3
          gi_wp2
          refine bodyPost_ret (results_none rfl _ _ _) rfl ?_
          exact ⟨⟨_, rfl⟩, .inr ⟨_, ⟨k + 1, by omega, rfl⟩, HJ3.out⟩⟩
      · have d1 : decide (g ≤ P) = false := decide_eq_false hg
        rw [← Hno.out hg] at hJ9
        have HJ9 := Lib.hid hJ9
        have HB9 := Lib.hid hB9
        clear hJ9 hB9 hJs
        gi_wp2
        refine ⟨fun _ h => (by cases h), ?_⟩
        gi_wp2
        go_roundw
        case rel => exact ⟨k + 1, by omega, by go_num, HJ9.out, HB9.out⟩
        case measure => simp [intOf]; omega
    · obtain rfl : k = len := by omega
      gi_wp2
      go_end0
      exact ⟨⟨_, rfl⟩, .inl ⟨_, rfl, hJs⟩⟩

end Go.Proofs.Ytnpdkpbecmpdbaa

/-
  grade.Of.
-/
namespace Go.Proofs.Ytnpdkpbecmpdbaa
open Go.RowKit Go.Shelf
attribute [local go_sem] Oper.semAt_some

set_option maxRecDepth 100000 in
set_option maxHeartbeats 1000000 in
theorem reached_in (F : Fence) (n : Nat) (h : F.fn 41) (hro : F.round = none) (a : Option Addr) (len c : Nat) (P : Int) (w : World) :
    CallsIn F n Try.prog 41 #[.slice a len c, .int .i64 P] w fun e w' => e = .returned (.func (.func 60) #[] #[.pointer (some ⟨w.heap.size, 0, none⟩), .pointer (some ⟨w.heap.size + 1, 0, none⟩)]) ∧
      w' = (w.alloc (.cells #[.slice a len c] 48)).alloc (.cells #[.int .i64 P] 3) := by
  refine callsIn_of_wp Try.func41 rfl h ?_ hro
  simp only [Try.ntmps41, List.size_toArray, List.length_cons, List.length_nil, Nat.reduceAdd, Nat.reduceSub, Array.replicate_succ, Array.replicate_zero, List.push_toArray, List.append_toArray, List.nil_append, List.cons_append]
  gi_wp2
  go_ret
  exact ⟨rfl, rfl⟩

theorem classAt_skip {l : List (Int × Int)} {P : Int} : ∀ {j : Nat}, j ≤ l.length → (∀ i, i < j → ¬ (gx l i).1 ≤ P) → classAt l P 0 = classAt (l.drop j) P j := by
  intro j
  induction j with
  | zero => intro _ _; simp
  | succ j ih =>
    intro hj hn
    rw [ih (by omega) fun i hi => hn i (by omega), drop_gx (show j < l.length by omega)]
    show (if (gx l j).1 ≤ P then _ else _) = _
    rw [if_neg (hn j (by omega))]
    simp
theorem classAt_none {l : List (Int × Int)} {P : Int} (h : upR l P l.length = []) : classAt l P 0 = -1 := by
  rw [classAt_skip (Nat.le_refl _) fun i hi hc => by
    have : i ∈ upR l P l.length := by simp [upR]; exact ⟨hi, hc⟩
    rw [h] at this; simp at this]
  simp [classAt]
theorem classAt_some {l : List (Int × Int)} {P : Int} {k x : Nat} (hk : k ≤ l.length) (h : upR l P k = [x]) : classAt l P 0 = x := by
  have hm : ∀ i, i ∈ upR l P k ↔ i < k ∧ (gx l i).1 ≤ P := by intro i; simp [upR]
  obtain ⟨h1, h2⟩ := (hm x).1 (by rw [h]; simp)
  have hs : ∀ i, i < x → ¬ (gx l i).1 ≤ P := by
    intro i hi hc
    have := (hm i).2 ⟨by omega, hc⟩
    rw [h] at this; simp at this; omega
  rw [classAt_skip (by omega) hs, drop_gx (by omega)]
  show (if (gx l x).1 ≤ P then _ else _) = _
  rw [if_pos h2]

theorem cell_new_l (W : World) (v : Value) (t : TypeId) : (W.alloc (.cells #[v] t)).cell? ⟨W.heap.size, 0, none⟩ = some v ∧ (W.alloc (.cells #[v] t)).frozen? ⟨W.heap.size, 0, none⟩ = false := by
  have h := rowIs_new W #[v] t
  exact ⟨h.cell (by simp), h.frozen 0⟩
theorem lt_of_cell2 {w : World} {b o : Nat} {v : Value} (h : w.cell? ⟨b, o, none⟩ = some v) : b < w.heap.size := by
  obtain ⟨o, ho, _⟩ := cells_of_cell h
  exact (Array.getElem?_eq_some_iff.1 ho).1
/-- The iterator from a list of classes. -/
theorem reached_stops (F : Fence) (n : Nat) (h8 : F.fn 60) (hro : F.round = none) (hn : 1 ≤ n) (Bs Bp n₀ : Nat) (a : Option Addr) (c : Nat) (P : Int) (l : List (Int × Int)) (D : Nat → Prop) (w2 : World)
    (hx : Grs D w2 a l) (hne : l ≠ []) (e1 : Bs = w2.heap.size := by rfl) (e2 : Bp = w2.heap.size + 1 := by rfl) (e3 : n₀ = w2.heap.size + 2 := by rfl) :
    SeqStopsK F n Try.prog 60 #[.pointer (some ⟨Bs, 0, none⟩), .pointer (some ⟨Bp, 0, none⟩)] (fun x : Nat => #[Value.int .i64 x]) (Below n₀) (fun ys => ys = upR l P l.length) (fun pre => ∃ k, k ≤ l.length ∧ pre = upR l P k) l.length
      ((w2.alloc (.cells #[.slice a l.length c] 48)).alloc (.cells #[.int .i64 P] 3)) := by
  intro l' J Jx W hW hJ _ hY h0
  obtain ⟨b, off, rfl, _, hc⟩ := hx.2 hne
  subst e1; subst e2; subst e3
  have h63 := hx.open.1
  have hl1 : 0 < l.length := List.length_pos_iff.2 hne
  have hb : b < w2.heap.size := lt_of_cell2 (hc 0 hl1).1
  have B0 : Below w2.heap.size w2 W := (((Below.refl _ w2).alloc (Nat.le_refl _) _).alloc (by simp) _).trans (hW.mono (by simp; omega))
  have c0 := cell_new_l w2 (.slice (some ⟨b, off, none⟩) l.length c) 48
  have c1 := cell_new_l (w2.alloc (.cells #[.slice (some ⟨b, off, none⟩) l.length c] 48)) (.int .i64 P) 3
  rw [World.size_alloc] at c1
  refine reached1_in F n h8 hro hn l' w2.heap.size (w2.heap.size + 1) (w2.heap.size + 2) b off l.length c P l rfl h63 (by omega) (by omega) (by omega) J Jx W (by have := hW.size; simp at this; omega) hJ hY ?_ ?_ ?_ h0
  · exact (hW.cell (p := ⟨w2.heap.size, 0, none⟩) (by simp; omega)).trans (((Mod.refl NoBlock _).alloc _).cell c0.1 id)
  · exact (hW.cell (p := ⟨w2.heap.size + 1, 0, none⟩) (by simp)).trans c1.1
  · intro j hj
    exact ⟨(B0.cell (p := ⟨b, off + j * 2, none⟩) hb).trans (hc j hj).1, (B0.cell (p := ⟨b, off + j * 2 + 1, none⟩) hb).trans (hc j hj).2⟩

/-- What Of hands back lies in two cells. -/
theorem of_results (w : World) (b6 b7 : Nat) (x y : Int) (tm : Array Value) (h6 : tm[6]? = some (.pointer (some ⟨b6, 0, none⟩))) (h7 : tm[7]? = some (.pointer (some ⟨b7, 0, none⟩)))
    (c6 : w.cell? ⟨b6, 0, none⟩ = some (.int .i64 x)) (c7 : w.cell? ⟨b7, 0, none⟩ = some (.int .i64 y)) :
    (results Try.f20 tm).run Try.prog w = .ok (.tuple #[.int .i64 x, .int .i64 y]) w := by
  simp [results, Try.f20, go_sem, h6, h7, c6, c7]

theorem leave0 {F : Fence} {n : Nat} {P : Program} {fn : Func} {tmps : Array Value} {R : Ending → World → Prop} {w : World} {v : Value} (hr : (results fn tmps).run P w = .ok v w) (hR : R (.returned v) w) :
    LeavesInM F n P fn tmps R [] .returning w := ⟨v, hr, hR⟩

/-- Two cells written one after the other. -/
theorem two_cells {w : World} {b6 b7 : Nat} {u v x y : Value} (hne : b6 ≠ b7) (c6 : w.cell? ⟨b6, 0, none⟩ = some u) (c7 : w.cell? ⟨b7, 0, none⟩ = some v) :
    ((w.setCell ⟨b6, 0, none⟩ x).setCell ⟨b7, 0, none⟩ y).cell? ⟨b6, 0, none⟩ = some x ∧ ((w.setCell ⟨b6, 0, none⟩ x).setCell ⟨b7, 0, none⟩ y).cell? ⟨b7, 0, none⟩ = some y := by
  have e6 := World.cell?_setCell_same' w ⟨b6, 0, none⟩ x (by rw [c6]; rfl)
  have e7 : (w.setCell ⟨b6, 0, none⟩ x).cell? ⟨b7, 0, none⟩ = some v := (World.cell?_of_block (Below.heap_setCell _ _ _ _ (by simp; omega))).trans c7
  exact ⟨(World.cell?_of_block (Below.heap_setCell _ _ _ _ (by simp; omega))).trans e6, World.cell?_setCell_same' _ _ _ (by rw [e7]; rfl)⟩

set_option maxRecDepth 100000 in
set_option maxHeartbeats 2000000 in
theorem gradeOf_any (a : Option Addr) (c : Nat) (l : List (Int × Int)) (a2 : Option Addr) (c2 : Nat) (xs : List Int) (i : Int) (D D2 : Nat → Prop) (w : World) (hx : Grs D w a l) (hy : Ints D2 w a2 xs) :
    Calls Try.prog 20 #[.slice a l.length c, .slice a2 xs.length c2, .int .i64 i] w fun e w' => e = .returned (.tuple #[.int .i64 (ofG l xs i).1, .int .i64 (ofG l xs i).2]) ∧ Mod NoBlock w w' := by
  have o1 := (Mod.refl NoBlock w).alloc (.cells #[.int .i64 0] 3)
  have o2 := o1.alloc (.cells #[.int .i64 0] 28)
  have Hx := Lib.hid (hx.frame o2)
  have Hy := Lib.hid (hy.frame o2)
  have Hc := Lib.hid (gradeCheck_any a c l D _ (hx.frame o2))
  have hlx := hx.open.1
  have O2 := Lib.hid o2
  have r6 := (rowIs_new w #[.int .i64 0] 3).alloc (.cells #[.int .i64 0] 28)
  have r7 := rowIs_new (w.alloc (.cells #[.int .i64 0] 3)) #[.int .i64 0] 28
  rw [World.size_alloc] at r7
  have R6 := Lib.hid r6
  have R7 := Lib.hid r7
  clear hx hy o1 o2 r6 r7
  refine (callsIn_wide (n := 3)).1 ?_
  refine callsIn_of_wp_marks Try.func20 rfl trivial ?_ rfl
  simp only [Try.ntmps20, List.size_toArray, List.length_cons, List.length_nil, Nat.reduceAdd, Nat.reduceSub, Array.replicate_succ, Array.replicate_zero, List.push_toArray, List.append_toArray, List.nil_append, List.cons_append]
  by_cases h : chkG l = 0
  · have H := Lib.hid h
    by_cases hp : (purL xs i).2 = 0
    · have E := Lib.hid (show ofG l xs i = if classAt l (purL xs i).1 0 = -1 then (0, 25) else (classAt l (purL xs i).1 0, 0) by unfold ofG; rw [if_pos h, if_pos hp])
      obtain ⟨P, hPe⟩ : ∃ P, purL xs i = (P, 0) := ⟨(purL xs i).1, by rw [← hp]⟩
      rw [hPe] at E
      have HP := Lib.hid hPe
      clear h hp hPe
      gi_wp2
      refine ⟨trivial, ?_⟩
      refine (callsIn_wide.2 Hc.out).mono ?_; rintro e w1 ⟨rfl, m⟩; rw [H.out]
      have M1 := Lib.hid m
      have Hy1 := Lib.hid (Hy.out.frame m)
      clear m
      gi_wp2
      refine ⟨trivial, ?_⟩
      refine (callsIn_wide.2 (matPurity_any _ _ _ _ _ _ Hy1.out)).mono ?_; rintro e w2 ⟨rfl, m⟩; rw [HP.out]
      have M2 := Lib.hid (M1.out.trans m)
      have q6 := R6.out.of_block (M2.out.block _ R6.out.lt id)
      have q7 := R7.out.of_block (M2.out.block _ R7.out.lt id)
      have c6 : w2.cell? ⟨w.heap.size, 0, none⟩ = some (.int .i64 0) := q6.cell (by simp)
      have c7 : w2.cell? ⟨w.heap.size + 1, 0, none⟩ = some (.int .i64 0) := q7.cell (by simp)
      have f6 := q6.frozen 0
      have f7 := q7.frozen 0
      clear m q6 q7
      gi_wp2
      refine ⟨trivial, ?_⟩
      refine (reached_in _ _ trivial rfl _ _ _ _ _).mono ?_; rintro e w3 ⟨rfl, rfl⟩
      gi_wp2
      have hBw : Below w.heap.size w ((w2.alloc (.cells #[.slice a l.length c] 48)).alloc (.cells #[.int .i64 P] 3)) := (((O2.out.trans M2.out).alloc _).alloc _).below
      have hle : w.heap.size ≤ w2.heap.size := (O2.out.trans M2.out).size
      have hrel := reached_stops Fence.wide (3 - 1) trivial rfl (by omega) w2.heap.size (w2.heap.size + 1) (w2.heap.size + 2) a c P l D w2 (Hx.out.frame M2.out) (fun e => by have := (chkG_facts H.out).1; rw [e] at this; simp at this)
      refine wpIn_rangeFunc_ownF rfl (by omega) (gf := 60) (lb := #[.pointer (some ⟨w2.heap.size, 0, none⟩), .pointer (some ⟨w2.heap.size + 1, 0, none⟩)]) rfl trivial (enters_of Try.func60 (by kernel_rfl) rfl)
        hrel belowK_t (belowK_b (by simp)) (Below.refl _ _) (fun _ => rfl)
        (fun pre W => (pre = [] ∧ W.cell? ⟨w.heap.size, 0, none⟩ = some (.int .i64 0) ∧ W.cell? ⟨w.heap.size + 1, 0, none⟩ = some (.int .i64 0) ∧ W.frozen? ⟨w.heap.size, 0, none⟩ = false ∧ W.frozen? ⟨w.heap.size + 1, 0, none⟩ = false) ∧ Below w.heap.size w W)
        (fun c pre W => (c = .ret ∧ ∃ x : Nat, pre = [x] ∧ W.cell? ⟨w.heap.size, 0, none⟩ = some (.int .i64 x) ∧ W.cell? ⟨w.heap.size + 1, 0, none⟩ = some (.int .i64 0)) ∧ Below w.heap.size w W)
        (OwnFrom.and (Own.from (fun s A B row hs hg hr => ⟨hs.1, cell_kept hs.2.1 hg hr, cell_kept hs.2.2.1 hg hr, (frozen_kept hs.2.1 hg hr).trans hs.2.2.2.1, (frozen_kept hs.2.2.1 hg hr).trans hs.2.2.2.2⟩) _) (ownFrom_below (Nat.le_refl _) (by simp; omega)))
        (fun c => OwnFrom.and (Own.from (fun s A B row hs hg hr => by obtain ⟨h1, x, h2, h3, h4⟩ := hs; exact ⟨h1, x, h2, cell_kept h3 hg hr, cell_kept h4 hg hr⟩) _) (ownFrom_below (Nat.le_refl _) (by simp; omega)))
        ?start
        (fun x => { tmps := #[.slice a l.length c, .slice a2 xs.length c2, .int .i64 i, undef, undef, undef, .pointer (some ⟨w.heap.size, 0, none⟩), .pointer (some ⟨w.heap.size + 1, 0, none⟩), .int .i64 0, .int .i64 P, .int .i64 0, .int .i64 x, .slice a l.length c, .int .i64 0, .int .i64 0, .bool false, undef, .tuple #[.int .i64 P, .int .i64 0], .slice a2 xs.length c2, .int .i64 i, .tuple #[.int .i64 P, .int .i64 0], .int .i64 P, .int .i64 0, .int .i64 0, .bool false, undef, .slice a l.length c, .int .i64 P, .func (.func 60) #[] #[.pointer (some ⟨w2.heap.size, 0, none⟩), .pointer (some ⟨w2.heap.size + 1, 0, none⟩)], .int .i64 x, undef], defers := [] }) ?assign ?body ?done ?stop
      case start =>
        have m3 := ((Mod.refl NoBlock w2).alloc (.cells #[.slice a l.length c] 48)).alloc (.cells #[.int .i64 P] 3)
        have b6 := lt_of_cell2 c6
        have b7 := lt_of_cell2 c7
        exact ⟨⟨rfl, m3.cell c6 id, m3.cell c7 id, (m3.frozen b6 id).trans f6, (m3.frozen b7 id).trans f7⟩, hBw⟩
      case assign =>
        intro l x W K hK
        gi_wp2
        exact hK
      case body =>
        rintro l pre x W ⟨⟨rfl, hc6, hc7, hf6, hf7⟩, hB⟩ _
        gi_wp2
        obtain ⟨d6, d7⟩ := two_cells (x := .int .i64 x) (y := .int .i64 0) (show w.heap.size ≠ w.heap.size + 1 by omega) hc6 hc7
        exact ⟨(KeepsOthers.setCell _ _ _).trans (KeepsOthers.setCell _ _ _), ⟨rfl, x, rfl, d6, d7⟩, (hB.setCell (p := ⟨w.heap.size, 0, none⟩) (Nat.le_refl _) _).setCell (p := ⟨w.heap.size + 1, 0, none⟩) (Nat.le_add_right _ _) _⟩
      case done =>
        rintro D ys W hD rfl ⟨⟨hne, hc6, hc7, hf6, hf7⟩, hB⟩ hK
        gi_wp2
        obtain ⟨d6, d7⟩ := two_cells (x := .int .i64 0) (y := .int .i64 25) (show w.heap.size ≠ w.heap.size + 1 by omega) hc6 hc7
        have hK' := ((KeepsOthers.setCell W ⟨w.heap.size, 0, none⟩ (.int .i64 0)).trans (KeepsOthers.setCell _ ⟨w.heap.size + 1, 0, none⟩ (.int .i64 25))).same D _ hK rfl
        refine ⟨by simp, .inl ⟨_, _, rfl, run_takeDeferred hK', ?_⟩⟩
        have e6 := cell_kept d6 (grownBy_putObj' _ D (.deferred none)) (fun r e => by cases e; exact ⟨_, hK', rfl⟩)
        have e7 := cell_kept d7 (grownBy_putObj' _ D (.deferred none)) (fun r e => by cases e; exact ⟨_, hK', rfl⟩)
        refine leave0 (of_results _ _ _ _ _ _ rfl rfl e6 e7) ⟨by rw [E.out, if_pos (classAt_none hne)], ?_⟩
        exact Mod.of_below (((hB.setCell (p := ⟨w.heap.size, 0, none⟩) (Nat.le_refl _) _).setCell (p := ⟨w.heap.size + 1, 0, none⟩) (Nat.le_add_right _ _) _).trans (belowK_b (w := w) (Nat.le_refl _) _ D _ _ (by simp at hD; omega) hK' rfl rfl))
      case stop =>
        rintro D c pre W hD ⟨k, hk, rfl⟩ ⟨⟨rfl, x, hx, hc6, hc7⟩, hB⟩ hK
        gi_wp2
        refine ⟨by simp, .inl ⟨_, _, rfl, run_takeDeferred hK, ?_⟩⟩
        have e6 := cell_kept hc6 (grownBy_putObj' _ D (.deferred none)) (fun r e => by cases e; exact ⟨_, hK, rfl⟩)
        have e7 := cell_kept hc7 (grownBy_putObj' _ D (.deferred none)) (fun r e => by cases e; exact ⟨_, hK, rfl⟩)
        have hcx := classAt_some hk hx
        refine leave0 (of_results _ _ _ _ _ _ rfl rfl e6 e7) ⟨by rw [E.out, hcx, if_neg (by omega)], ?_⟩
        exact Mod.of_below (hB.trans (belowK_b (w := w) (Nat.le_refl _) W D _ _ (by simp at hD; omega) hK rfl rfl))
    · have E := Lib.hid (show ofG l xs i = (0, (purL xs i).2) by unfold ofG; rw [if_pos h, if_neg hp])
      have hne : ((purL xs i).2 != 0) = true := by simpa using hp
      clear h hp
      gi_wp2
      refine ⟨trivial, ?_⟩
      refine (callsIn_wide.2 Hc.out).mono ?_; rintro e w1 ⟨rfl, m⟩; rw [H.out]
      have M1 := Lib.hid m
      have Hy1 := Lib.hid (Hy.out.frame m)
      clear m
      gi_wp2
      refine ⟨trivial, ?_⟩
      refine (callsIn_wide.2 (matPurity_any _ _ _ _ _ _ Hy1.out)).mono ?_; rintro e w2 ⟨rfl, m⟩
      have M2 := Lib.hid (M1.out.trans m)
      have q6 := R6.out.of_block (M2.out.block _ R6.out.lt id)
      have q7 := R7.out.of_block (M2.out.block _ R7.out.lt id)
      have c6 : w2.cell? ⟨w.heap.size, 0, none⟩ = some (.int .i64 0) := q6.cell (by simp)
      have c7 : w2.cell? ⟨w.heap.size + 1, 0, none⟩ = some (.int .i64 0) := q7.cell (by simp)
      have f6 := q6.frozen 0
      have f7 := q7.frozen 0
      clear m q6 q7
      gi_wp2
      obtain ⟨d6, d7⟩ := two_cells (x := .int .i64 0) (y := .int .i64 (purL xs i).2) (show w.heap.size ≠ w.heap.size + 1 by omega) c6 c7
      refine leave0 (of_results _ _ _ _ _ _ rfl rfl d6 d7) ⟨by rw [E.out], ?_⟩
      exact ((O2.out.trans M2.out).setCell (.inr (Nat.le_refl _)) _).setCell (.inr (Nat.le_add_right _ _)) _
  · have hne : (chkG l != 0) = true := by simpa using h
    have E := Lib.hid (show ofG l xs i = (0, chkG l) by unfold ofG; rw [if_neg h])
    clear h
    gi_wp2
    refine ⟨trivial, ?_⟩
    refine (callsIn_wide.2 Hc.out).mono ?_; rintro e w1 ⟨rfl, m⟩
    have M := Lib.hid (O2.out.trans m)
    have q6 := R6.out.of_block (m.block _ R6.out.lt id)
    have q7 := R7.out.of_block (m.block _ R7.out.lt id)
    have c6 : w1.cell? ⟨w.heap.size, 0, none⟩ = some (.int .i64 0) := q6.cell (by simp)
    have c7 : w1.cell? ⟨w.heap.size + 1, 0, none⟩ = some (.int .i64 0) := q7.cell (by simp)
    have f6 := q6.frozen 0
    have f7 := q7.frozen 0
    clear m q6 q7
    gi_wp2
    obtain ⟨d6, d7⟩ := two_cells (x := .int .i64 0) (y := .int .i64 (chkG l)) (show w.heap.size ≠ w.heap.size + 1 by omega) c6 c7
    refine leave0 (of_results _ _ _ _ _ _ rfl rfl d6 d7) ⟨by rw [E.out], ?_⟩
    exact (M.out.setCell (.inr (Nat.le_refl _)) _).setCell (.inr (Nat.le_add_right _ _)) _

end Go.Proofs.Ytnpdkpbecmpdbaa
