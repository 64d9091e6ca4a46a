/-
  share: the sort of Split: its closure, and slices.SortStableFunc on a row of few indices.
-/
import Derived.Test.YtnpdkpbecmpdbaaHs
import Derived.Test.YtnpdkpbecmpdbaaV1
import Derived.Deep.QuietTactic
import Derived.BigQuiet
set_option linter.unusedVariables false
set_option linter.unusedSimpArgs false
namespace Go.Proofs.Ytnpdkpbecmpdbaa
open Go.RowKit

/-- The remainders that the closure reads: the box B holds the slice of a row. -/
structure Rests (w : World) (B gr n : Nat) (R : Nat → Int) : Prop where
  box : w.cell? ⟨B, 0, none⟩ = some (.slice (some ⟨gr, 0, none⟩) n n)
  row : ∀ j, j < n → w.cell? ⟨gr, j, none⟩ = some (.int .i64 (R j))
  bd : ∀ j, j < n → 0 ≤ R j ∧ R j ≤ 1152921504606846976
  n9 : n ≤ 1000
theorem Rests.mod {w w' : World} {B gr n : Nat} {R : Nat → Int} {D : Nat → Prop} (h : Rests w B gr n R) (m : Mod D w w') (h1 : ¬ D B) (h2 : ¬ D gr) : Rests w' B gr n R :=
  ⟨m.cell h.box h1, fun j hj => m.cell (h.row j hj) h2, h.bd, h.n9⟩
theorem Rests.drewN {w : World} {B gr n : Nat} {R : Nat → Int} (h : Rests w B gr n R) (k : Nat) : Rests (w.drewN k) B gr n R := ⟨h.box, h.row, h.bd, h.n9⟩

set_option maxRecDepth 100000 in
set_option maxHeartbeats 1600000 in
theorem cmp_any {w : World} {B gr n : Nat} {R : Nat → Int} (h : Rests w B gr n R) {x y : Nat} (hx : x < n) (hy : y < n) :
    Calls Try.prog 53 #[.int .i64 (x : Int), .int .i64 (y : Int), .pointer (some ⟨B, 0, none⟩)] w fun e w' => e = .returned (.int .i64 (R y - R x)) ∧ Drawn w w' := by
  have c0 := h.box
  have c1 := h.row x hx
  have c2 := h.row y hy
  have b1 := h.bd x hx
  have b2 := h.bd y hy
  have n9 := h.n9
  have i1 : (x : Int) < (n : Int) := by omega
  have i2 : (y : Int) < (n : Int) := by omega
  clear h
  go_enter Try.func53, Try.ntmps53
  go_wp2
  go_quiet (fail)
  go_wp2
  go_ret
  exact ⟨rfl, Drawn.mk _ _⟩

/-- A row of indices. -/
structure Idx (w : World) (g n : Nat) (F : Nat → Nat) : Prop where
  row : w.rowIs g 3 n (fun j => .int .i64 (F j : Int))
  bd : ∀ j, j < n → F j < n
theorem Idx.drewN {w : World} {g n : Nat} {F : Nat → Nat} (h : Idx w g n F) (k : Nat) : Idx (w.drewN k) g n F := ⟨h.row, h.bd⟩
/-- Two neighbours change places. -/
def swp (F : Nat → Nat) (k j : Nat) : Nat := if j = k then F (k + 1) else if j = k + 1 then F k else F j
theorem Idx.swap {w : World} {g n k : Nat} {F : Nat → Nat} (h : Idx w g n F) (hk : k + 1 < n) : Idx ((w.setCell ⟨g, k + 1, none⟩ (.int .i64 (F k : Int))).setCell ⟨g, k, none⟩ (.int .i64 (F (k + 1) : Int))) g n (swp F k) := by
  refine ⟨((h.row.set (k + 1) _).set k _).congr fun j hj => ?_, fun j hj => ?_⟩
  · unfold swp
    by_cases h1 : j = k
    · rw [if_pos h1, if_pos h1]
    · rw [if_neg h1, if_neg h1]
      by_cases h2 : j = k + 1
      · rw [if_pos h2, if_pos h2]
      · rw [if_neg h2, if_neg h2]
  · unfold swp
    have a1 := h.bd k (by omega)
    have a2 := h.bd (k + 1) hk
    have a3 := h.bd j hj
    split
    · exact a2
    · split
      · exact a1
      · exact a3

/-- What a sort leaves. -/
def SortRes (w : World) (g n : Nat) (w' : World) : Prop := Mod (fun b => b = g) w w' ∧ ∃ F, Idx w' g n F

set_option maxRecDepth 100000 in
set_option maxHeartbeats 3200000 in
theorem insertion_any {w : World} {B gr g n : Nat} {R : Nat → Int} {F : Nat → Nat} (hR : Rests w B gr n R) (hF : Idx w g n F) (h1 : B ≠ g) (h2 : gr ≠ g) :
    Calls Try.prog 73 #[.slice (some ⟨g, 0, none⟩) n n, .int .i64 0, .int .i64 (n : Int), .func (.func 53) #[] #[.pointer (some ⟨B, 0, none⟩)]] w fun e w' => e = .returned (.tuple #[]) ∧ SortRes w g n w' := by
  have n9 := hR.n9
  have HR := Lib.hid hR
  have HF := Lib.hid hF
  clear hR hF
  go_enter Try.func73, Try.ntmps73
  go_wp2
  go_loopw [8] (fun i wr => ∃ (k : Nat) (F : Nat → Nat), k ≤ n ∧ i = .int .i64 ((k : Int) + 1) ∧ Mod (fun b => b = g) w wr ∧ Idx wr g n F) (fun i _ => n + 2 - (intOf i).toNat)
  case atStart => exact ⟨0, F, by omega, rfl, Mod.refl _ _, HF.out⟩
  case round =>
    clear HF
    obtain ⟨k, F1, hk, rfl, hm, hI⟩ := hrel
    have HM := Lib.hid hm
    have HI := Lib.hid hI
    clear hm hI
    obtain ⟨wo, rfl⟩ : ∃ wo : World, wo = wr := ⟨_, rfl⟩
    by_cases hlt : k + 1 < n
    · have l1 : (k : Int) + 1 < (n : Int) := by omega
      go_wp2
      go_loopw [9] (fun j wr => ∃ (q : Nat) (F : Nat → Nat), q ≤ k + 1 ∧ j = .int .i64 (q : Int) ∧ Mod (fun b => b = g) w wr ∧ Idx wr g n F) (fun j _ => (intOf j).toNat)
      case atStart => exact ⟨k + 1, F1, by omega, rfl, HM.out, HI.out⟩
      case round =>
        clear HM HI
        obtain ⟨q, F2, hq, rfl, hm, hI⟩ := hrel
        have HM := Lib.hid hm
        have HI := Lib.hid hI
        clear hm hI
        obtain ⟨wo, rfl⟩ : ∃ wo : World, wo = wr := ⟨_, rfl⟩
        cases q with
        | zero =>
          have g0 : decide ((0 : Int) < 0) = false := rfl
          rw [show ((0 : Nat) : Int) = 0 from rfl]
          go_wp2
          go_quiet (fail)
          go_wp2
          exact ⟨⟨k + 1, F2, by omega, by go_num, HM.out.drewN _, HI.out.drewN _⟩, by simp [intOf]; omega⟩
        | succ p =>
          rw [show ((p + 1 : Nat) : Int) = (p : Int) + 1 from rfl]
          have p0 : (0 : Int) < (p : Int) + 1 := by omega
          have p1 : (p : Int) + 1 < (n : Int) := by omega
          have p2 : (p : Int) < (n : Int) := by omega
          have c1 := HI.out.row.cell (i := p + 1) (by omega)
          have c0 := HI.out.row.cell (i := p) (by omega)
          have hc := cmp_any (HR.out.mod HM.out h1 h2) (HI.out.bd (p + 1) (by omega)) (HI.out.bd p (by omega))
          by_cases hlt2 : R (F2 p) - R (F2 (p + 1)) < 0
          · go_wp2
            go_quiet ((go_at_call 53; exact quiet_drawn (cmp_any ((HR.out.mod HM.out h1 h2).drewN _) (HI.out.bd (p + 1) (by omega)) (HI.out.bd p (by omega)))))
            have hI2 := HI.out.drewN nq
            have hM2 := HM.out.drewN nq
            have hS := (Idx.swap hI2 (k := p) (by omega)).drewN 1
            generalize wo.drewN nq = w2 at hI2 hM2 hS ⊢
            have f1 := hI2.row.frozen (p + 1)
            have f0 := hI2.row.frozen p
            have d1 := hI2.row.cell (i := p + 1) (by omega)
            have d0 := hI2.row.cell (i := p) (by omega)
            have HS := Lib.hid hS
            have HM2 := Lib.hid hM2
            clear hI2 hM2 hS c1 c0 HM HI
            go_wp2
            go_region
            all_goals go_wp2
            exact ⟨⟨p, swp F2 p, by omega, rfl, ((HM2.out.set1 (p + 1) _).set1 p _).drew, HS.out⟩, by simp [intOf]⟩
          · go_wp2
            go_quiet ((go_at_call 53; exact quiet_drawn (cmp_any ((HR.out.mod HM.out h1 h2).drewN _) (HI.out.bd (p + 1) (by omega)) (HI.out.bd p (by omega)))))
            go_wp2
            exact ⟨⟨k + 1, F2, by omega, by go_num, HM.out.drewN _, HI.out.drewN _⟩, by simp [intOf]; omega⟩
    · go_wp2
      go_end0
      exact ⟨rfl, HM.out, _, HI.out⟩

set_option maxRecDepth 100000 in
set_option maxHeartbeats 3200000 in
theorem stable_any {w : World} {B gr g n : Nat} {R : Nat → Int} {F : Nat → Nat} (hR : Rests w B gr n R) (hF : Idx w g n F) (h1 : B ≠ g) (h2 : gr ≠ g) (h16 : n ≤ 16) :
    Calls Try.prog 67 #[.slice (some ⟨g, 0, none⟩) n n, .int .i64 (n : Int), .func (.func 53) #[] #[.pointer (some ⟨B, 0, none⟩)]] w fun e w' => e = .returned (.tuple #[]) ∧ SortRes w g n w' := by
  have hS := insertion_any hR hF h1 h2
  have HS := Lib.hid hS
  have l1 : (n : Int) < 20 := by omega
  clear hS hR hF
  go_enter Try.func67, Try.ntmps67
  go_wp2
  go_loopw [7, 8] (fun i j wr => i = .int .i64 0 ∧ j = .int .i64 20 ∧ wr = w) (fun _ _ _ => 0)
  case atStart => exact ⟨rfl, rfl, rfl⟩
  case round =>
    obtain ⟨rfl, rfl, rfl⟩ := hrel
    go_wp2_with (go_at_call 73; refine HS.out.mono ?_; rintro e w2 ⟨rfl, hr⟩)
    have HR2 := Lib.hid hr
    clear hr
    go_loopw [6, 7, 8, 9] (fun k i j m wr => k = .int .i64 20 ∧ wr = w2) (fun _ _ _ _ _ => 0)
    case atStart => exact ⟨rfl, rfl⟩
    case round =>
      obtain ⟨rfl, rfl⟩ := hrel
      go_wp2
      go_end0
      exact ⟨rfl, HR2.out⟩

set_option maxRecDepth 100000 in
set_option maxHeartbeats 3200000 in
theorem sort_any {w : World} {B gr g n : Nat} {R : Nat → Int} {F : Nat → Nat} (hR : Rests w B gr n R) (hF : Idx w g n F) (h1 : B ≠ g) (h2 : gr ≠ g) (h16 : n ≤ 16) :
    Calls Try.prog 52 #[.slice (some ⟨g, 0, none⟩) n n, .func (.func 53) #[] #[.pointer (some ⟨B, 0, none⟩)]] w fun e w' => e = .returned (.tuple #[]) ∧ SortRes w g n w' := by
  have HS := Lib.hid (stable_any hR hF h1 h2 h16)
  clear hR hF
  go_enter Try.func52, Try.ntmps52
  go_wp2_with (go_at_call 67; refine HS.out.mono ?_; rintro e w2 ⟨rfl, hr⟩)
  have HR2 := Lib.hid hr
  clear hr
  go_wp2
  go_end0
  exact ⟨rfl, HR2.out⟩

end Go.Proofs.Ytnpdkpbecmpdbaa
