/-
  jet.open: a step at which the valve is open.
-/
import Derived.Test.YtnpdkpbecmpdbaaJc
set_option linter.unusedVariables false
set_option linter.unusedSimpArgs false
namespace Go.Proofs.Ytnpdkpbecmpdbaa
open Go.RowKit

def inW (f t s : Int) : Bool := decide (f ≤ s) && decide (s < t)

set_option maxHeartbeats 800000 in
theorem openC_any (f t s : Int) (B : Nat) (w : World) (hB : w.cell? ⟨B, 0, none⟩ = some (.int .i64 s)) :
    Calls Try.prog 48 #[.agg #[.int .i64 f, .int .i64 t], .pointer (some ⟨B, 0, none⟩)] w fun e w' => e = .returned (.bool (inW f t s)) ∧ Mod NoBlock w w' := by
  have hlt := World.block_lt_of_cell? _ _ hB
  have hlt : B < w.heap.size := hlt
  have hB' : ∀ o, (w.alloc o).cell? ⟨B, 0, none⟩ = some (.int .i64 s) := fun o => ((Mod.refl NoBlock w).alloc o).cell hB id
  by_cases h1 : f ≤ s
  · by_cases h2 : s < t
    · have e : inW f t s = true := by unfold inW; rw [decide_eq_true h1, decide_eq_true h2]; rfl
      rw [e]
      go_enter Try.func48, Try.ntmps48
      go_wp2
      go_ret
      exact ⟨rfl, (Mod.refl _ _).alloc _⟩
    · have e : inW f t s = false := by unfold inW; rw [decide_eq_true h1, decide_eq_false h2]; rfl
      rw [e]
      go_enter Try.func48, Try.ntmps48
      go_wp2
      go_ret
      exact ⟨rfl, (Mod.refl _ _).alloc _⟩
  · have e : inW f t s = false := by unfold inW; rw [decide_eq_false h1]; rfl
    rw [e]
    go_enter Try.func48, Try.ntmps48
    go_wp2
    go_ret
    exact ⟨rfl, (Mod.refl _ _).alloc _⟩

def FoundAt (w : World) (e : Ending) (w' : World) : Prop := ∃ j : Nat, e = .returned (.int .i64 j) ∧ Mod NoBlock w w'

set_option maxHeartbeats 1600000 in
theorem openI_any (a : Option Addr) (c n : Nat) (F T : Nat → Int) (s : Int) (B : Nat) (w : World) (hn : n ≤ 512) (hw : Wins w a n F T) (hB : w.cell? ⟨B, 0, none⟩ = some (.int .i64 s)) (hex : ∃ j, j < n ∧ inW (F j) (T j) s = true) :
    Calls Try.prog 64 #[.slice a n c, .func (.func 48) #[] #[.pointer (some ⟨B, 0, none⟩)]] w (FoundAt w) := by
  obtain ⟨J, hJ, hJ2⟩ := hex
  obtain ⟨b, off, rfl, hc⟩ := hw (by omega)
  have Hc := Lib.hid hc
  have HB := Lib.hid hB
  have HJ2 := Lib.hid hJ2
  have n5 : (n : Int) ≤ 512 := by omega
  clear hw hB hJ2 hc
  go_enter Try.func64, Try.ntmps64
  go_wp2
  go_loopw [5, 8] (fun u i wr => ∃ k : Nat, k ≤ J ∧ i = .int .i64 k ∧ Mod NoBlock w wr) (fun _ i _ => n - (intOf i).toNat)
  case atStart => exact ⟨0, by omega, rfl, Mod.refl _ _⟩
  case round =>
    obtain ⟨k, hk, rfl, hm⟩ := hrel
    have M := Lib.hid hm
    have h1 := hm.cell (Hc.out k (by omega)).1 id
    have h2 := hm.cell (Hc.out k (by omega)).2 id
    have hb := hm.cell HB.out id
    clear hm
    have kn : (k : Int) < (n : Int) := by omega
    have k0 : (0 : Int) ≤ (k : Int) := by omega
    go_wp2_with fail
    refine (openC_any (F k) (T k) s B _ hb).mono ?_
    rintro e w2 ⟨rfl, m⟩
    replace M := Lib.hid (M.out.trans m)
    clear m h1 h2 hb
    cases hin : inW (F k) (T k) s
    · have hkJ : k ≠ J := fun e => by subst e; have := HJ2.out; rw [hin] at this; cases this
      clear hin
      go_wp2
      exact ⟨⟨k + 1, by omega, by go_num, M.out⟩, by simp [intOf]; omega⟩
    · clear hin
      go_wp2
      go_ret
      exact ⟨k, rfl, M.out⟩

set_option maxHeartbeats 800000 in
theorem open_any (a : Option Addr) (c n : Nat) (F T : Nat → Int) (s : Int) (w : World) (hn : n ≤ 512) (hw : Wins w a n F T) (hex : ∃ j, j < n ∧ inW (F j) (T j) s = true) :
    Calls Try.prog 31 #[.slice a n c, .int .i64 s] w fun e w' => e = .returned (.bool true) ∧ Mod NoBlock w w' := by
  have m0 := (Mod.refl NoBlock w).alloc (.cells #[.int .i64 s] 3)
  have HW := Lib.hid (hw.frame m0)
  have HB := Lib.hid (cell_new w #[.int .i64 s] 3 0 _ rfl)
  have M := Lib.hid m0
  have HJ := Lib.hid hex
  clear hw m0 hex
  have HC := Lib.hid (show ∀ W, Mod NoBlock w W → Wins W a n F T → W.cell? ⟨w.heap.size, 0, none⟩ = some (.int .i64 s) → Calls Try.prog 47 #[.slice a n c, .func (.func 48) #[] #[.pointer (some ⟨w.heap.size, 0, none⟩)]] W fun e w' => e = .returned (.bool true) ∧ Mod NoBlock w w' from fun W m h1 h2 => by
    have M := Lib.hid m
    have H1 := Lib.hid h1
    have H2 := Lib.hid h2
    clear m h1 h2
    go_enter Try.func47, Try.ntmps47
    go_wp2_with fail
    refine (openI_any a c n F T s w.heap.size W hn H1.out H2.out HJ.out).mono ?_
    rintro e w2 ⟨j, rfl, m⟩
    have j0 : (0 : Int) ≤ (j : Int) := by omega
    replace M := Lib.hid (M.out.trans m)
    clear m
    go_wp2
    go_ret
    exact ⟨rfl, M.out⟩)
  go_enter Try.func31, Try.ntmps31
  go_wp2_with fail
  generalize w.alloc (.cells #[.int .i64 s] 3) = w0 at HW HB M ⊢
  refine (HC.out _ M.out HW.out HB.out).mono ?_
  rintro e w2 ⟨rfl, m⟩
  replace M := Lib.hid m
  clear m
  go_wp2
  go_ret
  exact ⟨rfl, M.out⟩

theorem inW_true {f t s : Int} (h1 : f ≤ s) (h2 : s < t) : inW f t s = true := by unfold inW; rw [decide_eq_true h1, decide_eq_true h2]; rfl

end Go.Proofs.Ytnpdkpbecmpdbaa
