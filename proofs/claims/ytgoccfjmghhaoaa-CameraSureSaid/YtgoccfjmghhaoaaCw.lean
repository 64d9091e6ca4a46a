/-
  The camera laws' own fixed example (awake), great, long.
-/
import Derived.Test.YtgoccfjmghhaoaaCv
set_option linter.unusedVariables false
set_option linter.unusedSimpArgs false
namespace Go.Proofs.Ytgoccfjmghhaoaa
open Go.RowKit

def SomeB (w : World) (e : Ending) (w' : World) : Prop := ∃ b, e = .returned (.bool b) ∧ Mod NoBlock w w'
def LongB (n : Nat) (w : World) (e : Ending) (w' : World) : Prop := ∃ b, e = .returned (.bool b) ∧ (b = false → n ≤ 12) ∧ w = w'

theorem great_some (a : Option Addr) (c : Nat) (l : List (List Int)) (D : Nat → Prop) (w : World) (hx : Mixes D w a l) :
    Calls Try.prog 10 #[.agg #[.slice a l.length c]] w (SomeB w) := by
  have hl := hx.open.1
  have m0 := (Mod.refl NoBlock w).alloc (.cells #[.slice a l.length c] 24)
  have HX := Lib.hid (hx.frame m0)
  have M := Lib.hid m0
  have hB := cell_new w #[.slice a l.length c] 24 0 _ rfl
  clear hx m0
  by_cases h : 30 < (l.length : Int)
  · go_enter Try.func10, Try.ntmps10
    go_wp2
    go_ret
    exact ⟨_, rfl, M.out⟩
  · go_enter Try.func10, Try.ntmps10
    go_wp2
    generalize w.alloc (.cells #[.slice a l.length c] 24) = w0 at M HX hB ⊢
    generalize w.heap.size = B at hB ⊢
    obtain ⟨_, b, off, ha, hcl⟩ := HX.out.open
    have Ha := Lib.hid ha
    have Hcl := Lib.hid hcl
    clear ha hcl
    go_loop [3] (fun i => ∃ k : Nat, k ≤ l.length ∧ i = .int .i64 k) (fun i => l.length - (intOf i).toNat)
    case atStart => exact ⟨0, by omega, rfl⟩
    case round =>
      obtain ⟨k, hk, rfl⟩ := hrel
      by_cases hlt : k < l.length
      · obtain ⟨a', c', h1, hi⟩ := Hcl.out k hlt
        obtain rfl := Ha.out (by intro h; subst h; simp at hlt)
        have hm := hi.1
        unfold maxLen at hm
        clear hi
        by_cases hq : 30 < ((rx l k).length : Int)
        · go_wp2
          go_ret
          exact ⟨_, rfl, M.out⟩
        · go_wp2
          exact ⟨⟨k + 1, by omega, by go_num⟩, by simp [intOf]; omega⟩
      · go_wp2
        go_ret
        exact ⟨_, rfl, M.out⟩

theorem long_some (a : Option Addr) (c : Nat) (l : List (List Int)) (D : Nat → Prop) (w : World) (hx : Mixes D w a l) :
    Calls Try.prog 15 #[.slice a l.length c] w (LongB l.length w) := by
  have hl := hx.open.1
  have HX := Lib.hid hx
  clear hx
  by_cases h : 12 < (l.length : Int)
  · go_enter Try.func15, Try.ntmps15
    go_wp2
    go_ret
    exact ⟨true, rfl, (by intro h; cases h), rfl⟩
  · obtain ⟨_, b, off, ha, hcl⟩ := HX.out.open
    have Ha := Lib.hid ha
    have Hcl := Lib.hid hcl
    clear ha hcl
    go_enter Try.func15, Try.ntmps15
    go_wp2
    go_loop [3] (fun i => ∃ k : Nat, k ≤ l.length ∧ i = .int .i64 k) (fun i => l.length - (intOf i).toNat)
    case atStart => exact ⟨0, by omega, rfl⟩
    case round =>
      obtain ⟨k, hk, rfl⟩ := hrel
      by_cases hlt : k < l.length
      · obtain ⟨a', c', h1, hi⟩ := Hcl.out k hlt
        obtain rfl := Ha.out (by intro h; subst h; simp at hlt)
        have hm := hi.1
        unfold maxLen at hm
        clear hi
        by_cases hq : 30 < ((rx l k).length : Int)
        · go_wp2
          go_ret
          exact ⟨true, rfl, (by intro h; cases h), rfl⟩
        · go_wp2
          exact ⟨⟨k + 1, by omega, by go_num⟩, by simp [intOf]; omega⟩
      · go_wp2
        go_ret
        exact ⟨false, rfl, fun _ => by omega, rfl⟩

def CAll : Nat → Prop := fun _ => True
/-- Two rows of two numbers, made in the cells of one slice. -/
theorem four_lits (w : World) (x y z u : Int) :
    Mixes CAll (((w.alloc (.cells #[.int .i64 x, .int .i64 y] 3)).alloc (.cells #[.int .i64 z, .int .i64 u] 3)).alloc (.cells #[.slice (some ⟨w.heap.size, 0, none⟩) 2 2, .slice (some ⟨w.heap.size + 1, 0, none⟩) 2 2] 41)) (some ⟨w.heap.size + 1 + 1, 0, none⟩) [[x, y], [z, u]] := by
  have h1 := (Ints.pair CAll w x y 3 trivial).alloc (.cells #[.int .i64 z, .int .i64 u] 3)
  have h2 := Ints.pair CAll (w.alloc (.cells #[.int .i64 x, .int .i64 y] 3)) z u 3 trivial
  have h4 := (Mixes.two h1 h2 2 2 41).mono (D' := CAll) fun _ _ _ => trivial
  simp only [World.size_alloc, List.length_cons, List.length_nil] at h4
  exact h4
/-- Two rows of one number, as mixes. -/
theorem two_ones (w : World) (x y : Int) :
    Mixes CAll (((w.alloc (.cells #[.int .i64 x] 3)).alloc (.cells #[.int .i64 y] 3)).alloc (.cells #[.slice (some ⟨w.heap.size, 0, none⟩) 1 1, .slice (some ⟨w.heap.size + 1, 0, none⟩) 1 1] 42)) (some ⟨w.heap.size + 1 + 1, 0, none⟩) [[x], [y]] := by
  have h1 := (Ints.one CAll w x 3 trivial).alloc (.cells #[.int .i64 y] 3)
  have h2 := Ints.one CAll (w.alloc (.cells #[.int .i64 x] 3)) y 3 trivial
  have h4 := (Mixes.two h1 h2 1 1 42).mono (D' := CAll) fun _ _ _ => trivial
  simp only [World.size_alloc, List.length_cons, List.length_nil] at h4
  exact h4
theorem one_pair (w : World) (x y : Int) :
    Mixes CAll ((w.alloc (.cells #[.int .i64 x, .int .i64 y] 3)).alloc (.cells #[.slice (some ⟨w.heap.size, 0, none⟩) 2 2] 41)) (some ⟨w.heap.size + 1, 0, none⟩) [[x, y]] := by
  have h1 := Ints.pair CAll w x y 3 trivial
  have h4 := (Mixes.one h1 2 41).mono (D' := CAll) fun _ _ _ => trivial
  simp only [World.size_alloc, List.length_cons, List.length_nil] at h4
  exact h4

set_option maxRecDepth 100000 in
set_option maxHeartbeats 3200000 in
theorem awakeC_any (w : World) : Calls Try.prog 11 #[] w fun e w' => e = .returned (.bool true) ∧ Mod NoBlock w w' := by
  go_enter Try.func11, Try.ntmps11
  go_wp2_with fail
  have hsz : ((((w.alloc (.cells #[.int .i64 900, .int .i64 100] 3)).alloc (.cells #[.int .i64 200, .int .i64 800] 3)).alloc (.cells #[.slice (some ⟨w.heap.size, 0, none⟩) 2 2, .slice (some ⟨w.heap.size + 1, 0, none⟩) 2 2] 41)).alloc (.cells #[.slice (some ⟨w.heap.size + 1 + 1, 0, none⟩) 2 2] 24)).heap.size = w.heap.size + 1 + 1 + 1 + 1 := by simp
  have HC := Lib.hid ((four_lits w 900 100 200 800).alloc (.cells #[.slice (some ⟨w.heap.size + 1 + 1, 0, none⟩) 2 2] 24))
  have hB := cell_new (((w.alloc (.cells #[.int .i64 900, .int .i64 100] 3)).alloc (.cells #[.int .i64 200, .int .i64 800] 3)).alloc (.cells #[.slice (some ⟨w.heap.size, 0, none⟩) 2 2, .slice (some ⟨w.heap.size + 1, 0, none⟩) 2 2] 41)) #[.slice (some ⟨w.heap.size + 1 + 1, 0, none⟩) 2 2] 24 0 _ rfl
  simp only [World.size_alloc] at hB
  have M := Lib.hid (((((Mod.refl NoBlock w).alloc (.cells #[.int .i64 900, .int .i64 100] 3)).alloc (.cells #[.int .i64 200, .int .i64 800] 3)).alloc (.cells #[.slice (some ⟨w.heap.size, 0, none⟩) 2 2, .slice (some ⟨w.heap.size + 1, 0, none⟩) 2 2] 41)).alloc (.cells #[.slice (some ⟨w.heap.size + 1 + 1, 0, none⟩) 2 2] 24))
  rw [← hsz]
  generalize (((w.alloc (.cells #[.int .i64 900, .int .i64 100] 3)).alloc (.cells #[.int .i64 200, .int .i64 800] 3)).alloc (.cells #[.slice (some ⟨w.heap.size, 0, none⟩) 2 2, .slice (some ⟨w.heap.size + 1, 0, none⟩) 2 2] 41)).alloc (.cells #[.slice (some ⟨w.heap.size + 1 + 1, 0, none⟩) 2 2] 24) = w0 at HC hB M ⊢
  clear hsz
  have hB : w0.cell? ⟨w.heap.size + 1 + 1 + 1, 0, none⟩ = some (.slice (some ⟨w.heap.size + 1 + 1, 0, none⟩) 2 2) := hB
  generalize w.heap.size + 1 + 1 + 1 = B at hB ⊢
  generalize w.heap.size + 1 + 1 = g at HC hB ⊢
  refine (likely_any _ 2 [[900, 100], [200, 800]] _ 2 [1000, 1000] 1 CAll CAll _ (HC.out.alloc _) (Ints.pair CAll w0 1000 1000 _ trivial)).mono ?_
  rw [show likL [[900, 100], [200, 800]] [1000, 1000] 1 = (1, 0) by decide]
  rintro e w1 ⟨rfl, m⟩
  have m := ((Mod.refl NoBlock w0).alloc _).trans m
  replace M := Lib.hid (M.out.trans m); replace HC := Lib.hid (HC.out.frame m); replace hB := m.cell hB id; clear m
  go_wp2_with fail
  refine (likely_any _ 2 [[900, 100], [200, 800]] _ 2 [1000, 100] 1 CAll CAll _ (HC.out.alloc _) (Ints.pair CAll w1 1000 100 _ trivial)).mono ?_
  rw [show likL [[900, 100], [200, 800]] [1000, 100] 1 = (0, 0) by decide]
  rintro e w2 ⟨rfl, m⟩
  have m := ((Mod.refl NoBlock w1).alloc _).trans m
  replace M := Lib.hid (M.out.trans m); replace HC := Lib.hid (HC.out.frame m); replace hB := m.cell hB id; clear m
  go_wp2_with fail
  refine (purity_any _ 2 [[900, 100], [200, 800]] _ 2 [1000, 100] 1 0 CAll CAll _ (HC.out.alloc _) (Ints.pair CAll w2 1000 100 _ trivial)).mono ?_
  rw [show purM [[900, 100], [200, 800]] [1000, 100] 1 0 = (555, 0) by decide]
  rintro e w3 ⟨rfl, m⟩
  have m := ((Mod.refl NoBlock w2).alloc _).trans m
  replace M := Lib.hid (M.out.trans m); replace HC := Lib.hid (HC.out.frame m); replace hB := m.cell hB id; clear m
  go_wp2_with fail
  refine (camNew_ok _ 1 [[300, 700]] 1 CAll _ (one_pair w3 300 700) (by decide)).mono ?_
  rintro e w4 ⟨p, rfl, m, he⟩
  have hlo : w.heap.size ≤ w3.heap.size := M.out.size
  have hBl : B < w3.heap.size := World.block_lt_of_cell? _ _ hB
  replace HC := Lib.hid (HC.out.mono (D' := fun b => b < w3.heap.size) fun b hb _ => hb)
  have m := (((Mod.refl NoBlock w3).alloc _).alloc _).trans m
  replace M := Lib.hid (M.out.trans m); replace HC := Lib.hid (HC.out.frame m); replace hB := m.cell hB id; clear m
  have he := show EyeAt w4 _ w4.heap.size p [[300, 700]] [[0, 0]] from he
  have hlo3 : w3.heap.size ≤ ((w3.alloc (.cells #[.int .i64 300, .int .i64 700] 3)).alloc (.cells #[.slice (some ⟨w3.heap.size, 0, none⟩) 2 2] 41)).heap.size := by simp; omega
  generalize ((w3.alloc (.cells #[.int .i64 300, .int .i64 700] 3)).alloc (.cells #[.slice (some ⟨w3.heap.size, 0, none⟩) 2 2] 41)).heap.size = lo at he hlo3
  generalize w3.heap.size = z3 at hlo hBl HC hlo3 ⊢
  obtain ⟨hi, hhi⟩ : ∃ hi, w4.heap.size = hi := ⟨_, rfl⟩
  rw [hhi] at he
  have HY := Lib.hid he
  have hhi4 : hi ≤ w4.heap.size := by omega
  clear he hhi
  have hok : EyeOk [[300, 700]] [[0, 0]] := EyeOk.new (m := 1) (by decide)
  go_wp2_with fail
  refine (see_ok lo hi p [[300, 700]] [[0, 0]] _ 1 [1] (fun b => hi ≤ b) _ (HY.out.frame ((Mod.refl NoBlock w4).alloc _)) (Ints.one (fun b => hi ≤ b) w4 1 _ hhi4) hok (fun b h => by omega) (by simp; omega) (by decide)).mono ?_
  rw [show seeO [[300, 700]] [[0, 0]] [1] = [[300, -300]] by decide, show seeL [[300, 700]] [[0, 0]] [1] = [[0], [1]] by decide, show (rx [[300, 700]] 0).length = 2 by decide]
  rintro e w5 ⟨al, cl, rfl, m, he, hl⟩
  have m := ((Mod.refl (fun b => lo ≤ b ∧ b < hi) w4).alloc _).trans m
  have HL := Lib.hid (hl.mono (D' := fun b => hi ≤ b) fun b _ h => by have h : (w4.alloc _).heap.size ≤ b := h; simp at h; omega)
  replace M := Lib.hid (M.out.step m fun b hb h => by omega)
  replace HC := Lib.hid (HC.out.mod m fun b _ h1 h2 => by omega)
  replace hB := m.cell hB (by show ¬ (lo ≤ B ∧ B < hi); omega)
  have HY := Lib.hid he
  have hhi5 : hi ≤ w5.heap.size := Nat.le_trans hhi4 m.size
  have hok := hok.see [1]
  rw [show seeO [[300, 700]] [[0, 0]] [1] = [[300, -300]] by decide] at hok
  clear m he hl hhi4
  go_wp2_with fail
  refine (see_ok lo hi p [[300, 700]] [[300, -300]] _ 1 [1] (fun b => hi ≤ b) _ (HY.out.frame ((Mod.refl NoBlock w5).alloc _)) (Ints.one (fun b => hi ≤ b) w5 1 _ hhi5) hok (fun b h => by omega) (by simp; omega) (by decide)).mono ?_
  rw [show seeL [[300, 700]] [[300, -300]] [1] = [[1], [0]] by decide, show (rx [[300, 700]] 0).length = 2 by decide]
  rintro e w6 ⟨am, cm, rfl, m, he, hl⟩
  have m := ((Mod.refl (fun b => lo ≤ b ∧ b < hi) w5).alloc _).trans m
  have HM := Lib.hid (hl.mono (D' := fun b => hi ≤ b) fun b _ h => by have h : (w5.alloc _).heap.size ≤ b := h; simp at h; omega)
  replace M := Lib.hid (M.out.step m fun b hb h => by omega)
  replace HC := Lib.hid (HC.out.mod m fun b _ h1 h2 => by omega)
  replace hB := m.cell hB (by show ¬ (lo ≤ B ∧ B < hi); omega)
  replace HL := Lib.hid (HL.out.mod m fun b _ h1 h2 => by omega)
  clear m he hl HY hok
  go_wp2_with fail
  refine (sameAll_any _ _ cl 2 [[0], [1]] [[0], [1]] _ _ _ (((HL.out.alloc _).alloc _).alloc _) (two_ones w6 0 1)).mono ?_
  rw [show decide (([[0], [1]] : List (List Int)) = [[0], [1]]) = true by decide]
  rintro e w7 ⟨rfl, m⟩
  have m := ((((Mod.refl NoBlock w6).alloc _).alloc _).alloc _).drawn m
  replace M := Lib.hid (M.out.trans m); replace HC := Lib.hid (HC.out.frame m); replace HM := Lib.hid (HM.out.frame m); replace hB := m.cell hB id; clear m HL
  go_wp2_with fail
  refine (sameAll_any _ _ cm 2 [[1], [0]] [[1], [0]] _ _ _ (((HM.out.alloc _).alloc _).alloc _) (two_ones w7 1 0)).mono ?_
  rw [show decide (([[1], [0]] : List (List Int)) = [[1], [0]]) = true by decide]
  rintro e w8 ⟨rfl, m⟩
  have m := ((((Mod.refl NoBlock w7).alloc _).alloc _).alloc _).drawn m
  replace M := Lib.hid (M.out.trans m); replace HC := Lib.hid (HC.out.frame m); replace hB := m.cell hB id; clear m HM
  go_wp2_with fail
  refine (camCheck_any _ 2 [[900, 100], [200, 800]] 2 _ _ HC.out).mono ?_
  rw [show camE [[900, 100], [200, 800]] 2 = 0 by decide]
  rintro e w9 ⟨rfl, m⟩
  replace M := Lib.hid (M.out.trans m); clear m HC hB
  go_wp2
  go_ret
  exact ⟨rfl, M.out⟩

end Go.Proofs.Ytgoccfjmghhaoaa
