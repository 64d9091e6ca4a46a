/-
  The law BeltPlays.
-/
import Derived.Test.YtinoekldcchfhaaLg
set_option linter.unusedVariables false
set_option linter.unusedSimpArgs false
namespace Go.Proofs.Ytinoekldcchfhaa
open Go.RowKit

theorem OpsAt.at {w : World} {a : Option Addr} {l : List (Bool × List Int)} (h : OpsAt w a l) (hne : l ≠ []) : ∃ b off, a = some ⟨b, off, Option.none⟩ ∧ b < w.heap.size ∧ ∀ k, k < l.length → ∃ a2 c2, w.cell? ⟨b, off + k * 2, Option.none⟩ = some (.bool (ox l k).1) ∧
    w.cell? ⟨b, off + k * 2 + 1, Option.none⟩ = some (.slice a2 (ox l k).2.length c2) ∧ Ints Any w a2 (ox l k).2 := by
  obtain ⟨b, off, ha, hc⟩ := h hne
  have hpos : 0 < l.length := by cases l <;> simp_all
  obtain ⟨_, _, h0, _⟩ := hc 0 hpos
  exact ⟨b, off, ha, World.block_lt_of_cell? w _ h0, hc⟩

set_option maxHeartbeats 400000 in
theorem light_any (a : Option Addr) (c : Nat) (l : List (Bool × List Int)) (w : World) (h : OpsAt w a l) :
    Calls Try.prog 18 #[.slice a l.length c] w fun e w' => ∃ v, e = .returned (.bool v) ∧ w = w' ∧ (v = true → l.length ≤ 60) := by
  by_cases hl : 60 < l.length
  · go_enter Try.func18, Try.ntmps18
    go_wp2
    go_ret
    exact ⟨false, rfl, rfl, fun h => (by cases h)⟩
  · have d0 : decide (60 < (l.length : Int)) = false := by simp; omega
    have hl' : l.length ≤ 60 := by omega
    have H := Lib.hid (OpsAt.at h)
    clear h hl
    go_enter Try.func18, Try.ntmps18
    go_wp2
    go_loopw [3] (fun i wr => ∃ k : Nat, k ≤ l.length ∧ i = .int .i64 k ∧ wr = w) (fun i _ => l.length - (intOf i).toNat)
    case atStart => exact ⟨0, by omega, rfl, rfl⟩
    case round =>
      obtain ⟨k, hk, rfl, rfl⟩ := hrel
      by_cases hkn : k < l.length
      · obtain ⟨b, off, rfl, hb, hc⟩ := H.out (by intro e; subst e; simp at hkn)
        obtain ⟨a2, c2, h1, h2, h3⟩ := hc k hkn
        have q1 : (0 : Int) ≤ (k : Int) := by omega
        have q2 : (k : Int) < (l.length : Int) := by omega
        clear hc h3
        by_cases hgt : 40 < (ox l k).2.length
        · have d2 : decide (40 < ((ox l k).2.length : Int)) = true := decide_eq_true (by omega)
          clear hgt
          go_wp2
          go_ret
          exact ⟨false, rfl, rfl, fun h => (by cases h)⟩
        · have d2 : decide (40 < ((ox l k).2.length : Int)) = false := decide_eq_false (by omega)
          clear hgt
          go_wp2
          exact ⟨⟨k + 1, by omega, by go_num, by trivial⟩, by simp [intOf]; omega⟩
      · go_wp2
        go_ret
        exact ⟨true, rfl, rfl, fun _ => hl'⟩

theorem Mixes.lt' {D : Nat → Prop} {w : World} {a : Option Addr} {l : List (List Int)} (h : Mixes D w a l) : Mixes (fun b => D b ∧ b < w.heap.size) w a l := h.mono fun b h1 h2 => ⟨h2, h1⟩
def Not2 (a b : Nat) : Nat → Prop := fun k => k ≠ a ∧ k ≠ b

set_option maxRecDepth 100000 in
set_option maxHeartbeats 4000000 in
theorem beltPlays_ok (n m : Nat) (a : Option Addr) (c : Nat) (l : List (Bool × List Int)) (w : World) (hx : OpsAt w a l) (hn1 : 1 ≤ n) (hn : n ≤ 16) (hm : 1 ≤ m) (hm2 : m ≤ 16) :
    Calls Try.prog 4 #[.int .i64 n, .int .i64 m, .slice a l.length c] w fun e w' => e = .returned (.bool true) ∧ Mod NoBlock w w' := by
  have Hx := Lib.hid hx
  clear hx
  go_enter Try.func4, Try.ntmps4
  go_wp2_with fail
  refine (light_any a c l w Hx.out).mono ?_
  rintro e w0 ⟨v, rfl, rfl, hv⟩
  cases v
  · clear hv
    go_wp2_with fail
    refine (awake_any _).mono ?_
    rintro e w9 ⟨rfl, hm9⟩
    have Hm9 := Lib.hid hm9
    clear hm9
    go_wp2
    go_ret
    exact ⟨rfl, Hm9.out⟩
  have hl := hv rfl
  clear hv
  go_wp2_with fail
  refine (beltNew_ok n m _ hn1 (by omega) hm hm2).mono ?_
  rintro e w1 ⟨rfl, hm1, hb1⟩
  have k1 := hb1.lt
  have Hb1 := Lib.hid hb1
  have Hm1 := Lib.hid hm1
  clear hb1 hm1
  go_wp2_with fail
  refine (refNew_ok n m _ hn1 (by omega) hm hm2).mono ?_
  rintro e w2 ⟨a2, c2, rfl, hc2, hm2', hx2⟩
  have k2 := hm2'.size
  have Hb2 := Lib.hid (Hb1.out.lt'.kept hm2')
  have Hm2 := Lib.hid (Hm1.out.trans hm2')
  have Hx2 := Lib.hid hx2
  clear hm2' hx2 Hb1 Hm1
  go_wp2_with fail
  have hbox := rowIs_new w2 #[.int .i64 m, .slice a2 n c2] 28
  have hm3 : Mod NoBlock w2 (w2.alloc (.cells #[.int .i64 m, .slice a2 n c2] 28)) := (Mod.refl _ _).alloc _
  have Hb3 := Lib.hid ((Hb2.out.lt'.kept hm3).mono (D' := Not2 w.heap.size w2.heap.size) (fun b h1 h2 => ⟨by omega, by omega⟩) (fun h => h.1 rfl))
  have Hx3 := Lib.hid ((Hx2.out.lt'.alloc (.cells #[.int .i64 m, .slice a2 n c2] 28)).mono (D' := Not2 w.heap.size w2.heap.size) (fun b h1 h2 => ⟨by omega, by omega⟩))
  have Hm3 := Lib.hid (Hm2.out.trans hm3)
  have k3 : (w2.alloc (.cells #[.int .i64 m, .slice a2 n c2] 28)).heap.size = w2.heap.size + 1 := by simp
  clear hm3 Hb2 Hx2 Hm2
  generalize w2.alloc (.cells #[.int .i64 m, .slice a2 n c2] 28) = w3 at *
  generalize w2.heap.size = g at *
  generalize hba : w.heap.size = bb at *
  have Hbox := Lib.hid (hbox.congr (g := fun i => if i = 0 then .int .i64 m else .slice a2 n c2) (fun i hi => by
    have hi2 : i < 2 := by simpa using hi
    rcases (by omega : i = 0 ∨ i = 1) with rfl | rfl <;> rfl))
  clear hbox
  have hcell2 : l ≠ [] → ∃ b off, a = some ⟨b, off, Option.none⟩ ∧ b < bb ∧ ∀ k, k < l.length → ∃ a2 c2, w3.cell? ⟨b, off + k * 2, Option.none⟩ = some (.bool (ox l k).1) ∧ w3.cell? ⟨b, off + k * 2 + 1, Option.none⟩ = some (.slice a2 (ox l k).2.length c2) ∧
      Ints (fun k => k < bb) w3 a2 (ox l k).2 := by
    intro hne
    obtain ⟨b, off, ha, hb, hc⟩ := Hx.out.at hne
    refine ⟨b, off, ha, by omega, fun k hk => ?_⟩
    obtain ⟨a2, c2, h1, h2, h3⟩ := hc k hk
    exact ⟨a2, c2, Hm3.out.cell h1 (fun h => h), Hm3.out.cell h2 (fun h => h), (h3.lt.frame Hm3.out).mono fun b _ hb => by omega⟩
  have Hcell2 := Lib.hid hcell2
  clear hcell2 Hx
  go_loopw [11] (fun i wr => ∃ (k : Nat) (sl : List (List Int)) (a2 : Option Addr) (c2 : Nat), k ≤ l.length ∧ i = .int .i64 k ∧ Mod (fun b => bb ≤ b) w3 wr ∧ sl.length = n ∧ n ≤ c2 ∧
    BeltAt (Not2 bb g) wr bb m sl ∧ Mixes (Not2 bb g) wr a2 sl ∧ wr.rowIs g 28 2 (fun i => if i = 0 then .int .i64 m else .slice a2 n c2)) (fun i _ => l.length - (intOf i).toNat)
  case atStart =>
    exact ⟨0, noughts n m, a2, c2, by omega, rfl, Mod.refl _ _, noughts_length _ _, hc2, Hb3.out, Hx3.out, Hbox.out⟩
  case round =>
    clear Hb3 Hx3 Hbox hc2
    obtain ⟨k, sl, a2, c2, hk, rfl, hmod, hls, hc2, hb1, hx1, hbox⟩ := hrel
    by_cases hkn : k < l.length
    · obtain ⟨b, off, rfl, hbl, hcs⟩ := Hcell2.out (by intro e; subst e; simp at hkn)
      obtain ⟨a1, c1, h1, h2, h3⟩ := hcs k hkn
      have r1 := hmod.cell h1 (by simp; omega)
      have r2 := hmod.cell h2 (by simp; omega)
      have hxw : Ints (fun k => k < bb) wr a1 (ox l k).2 := h3.mod hmod (fun b _ h => by omega)
      have hsz := hmod.size
      have q1 : (0 : Int) ≤ (k : Int) := by omega
      have q2 : (k : Int) < (l.length : Int) := by omega
      have g0 : wr.cell? ⟨g, 0, Option.none⟩ = some (.int .i64 m) := hbox.cell (by omega)
      have g1 : wr.cell? ⟨g, 1, Option.none⟩ = some (.slice a2 n c2) := hbox.cell (by omega)
      have f0 := hbox.frozen 0
      have f1 := hbox.frozen 1
      have hrv : ∀ i, i < n → validL (rx sl i) m = true := fun i hi => hb1.rows i (by omega)
      have Hls := Lib.hid hls
      have Hxw := Lib.hid hxw
      have Hmod := Lib.hid hmod
      have HB := Lib.hid hb1
      have HX := Lib.hid hx1
      have Hbox := Lib.hid hbox
      have Hrv := Lib.hid hrv
      clear hls hxw hmod hb1 hx1 hbox h1 h2 h3 hcs hrv
      cases hbo : (ox l k).1
      · rw [hbo] at r1
        go_wp2_with fail
        by_cases hv : validL (ox l k).2 m = true
        · refine (step_n _ c1 _ (ox l k).2 rfl (fun q hq => by unfold Not2; omega) HB.out (Hxw.out.mono fun b _ h => by unfold Not2; exact ⟨by omega, by omega⟩) hv).mono ?_
          rintro e w4 ⟨a4, c4, rfl, hm4, hx4, hb4⟩
          have hs4 := hm4.size
          have hbox4 := Hbox.out.of_block (hm4.block g Hbox.out.lt (by omega))
          have Hm4 := Lib.hid (Hmod.out.trans (hm4.mono fun b _ e => by omega))
          have HX4 := Lib.hid (HX.out.mod hm4 (fun b _ h e => h.1 e))
          have Hx4 := Lib.hid hx4
          have HB4 := Lib.hid hb4
          have Hxw4 := Lib.hid (Hxw.out.mod hm4 (fun b _ h e => by omega))
          have r3 := hm4.cell r2 (by simp; omega)
          clear hm4 hx4 hb4 HB HX Hmod g0 g1 f0 f1 r1 r2 Hxw
          have g0 : w4.cell? ⟨g, 0, Option.none⟩ = some (.int .i64 m) := hbox4.cell (by omega)
          have g1 : w4.cell? ⟨g, 1, Option.none⟩ = some (.slice a2 n c2) := hbox4.cell (by omega)
          have Hbox4 := Lib.hid hbox4
          clear hbox4 Hbox
          go_wp2
          go_region_held3 (fun w' => w'.cell? ⟨g, 0, Option.none⟩ = some (.int .i64 m) ∧ w'.cell? ⟨g, 1, Option.none⟩ = some (.slice a2 n c2) ∧ w'.cell? ⟨b, off + k * 2 + 1, Option.none⟩ = some (.slice a1 (ox l k).2.length c1))
            (first
              | go_keep
              | (go_split_ands
                 exact ⟨s0, s1, s2⟩)
              | (go_split_ands
                 exact ⟨((Mod.refl NoBlock w5).alloc _).cell s0 (fun h => h), ((Mod.refl NoBlock w5).alloc _).cell s1 (fun h => h), ((Mod.refl NoBlock w5).alloc _).cell s2 (fun h => h)⟩)
              | (go_split_ands
                 exact ⟨(((Mod.refl (fun b => b = w4.heap.size) w5).set1 0 _).set1 1 _).cell s0 (by simp; omega), (((Mod.refl (fun b => b = w4.heap.size) w5).set1 0 _).set1 1 _).cell s1 (by simp; omega), (((Mod.refl (fun b => b = w4.heap.size) w5).set1 0 _).set1 1 _).cell s2 (by simp; omega)⟩))
            (first
              | (go_at_call 22; refine (refStep_ok (Not2 bb g) (fun q => q < bb) m n sl a2 c2 a1 c1 (ox l k).2 _ (by exact HX4.out) (by exact Hxw4.out) hv hm2 Hls.out hc2 hn1 hn (fun i hi => valid_len (Hrv.out i hi))).mono ?_; rintro e w5 ⟨a5, c5, a6, c6, rfl, hc5, hmc, hx5, hx6⟩
                 have s0 : w5.cell? ⟨g, 0, Option.none⟩ = some (.int .i64 m) := hmc.cell (by exact g0) (fun h => h)
                 have s1 : w5.cell? ⟨g, 1, Option.none⟩ = some (.slice a2 n c2) := hmc.cell (by exact g1) (fun h => h)
                 have s2 : w5.cell? ⟨b, off + k * 2 + 1, Option.none⟩ = some (.slice a1 (ox l k).2.length c1) := hmc.cell (by exact r3) (fun h => h)
                 have hmr : Mod NoBlock w4 w5 := hmc.undrew
                 have hx5' := hx5.mono (D' := Not2 bb g) (fun b _ h => h.elim id fun h => ⟨by simp at h; omega, by simp at h; omega⟩)
                 have hx6' := hx6.mono (D' := fun b => w4.heap.size ≤ b) (fun b _ h => by simp at h; omega))
              | (go_at_call 22; refine (refStep_ok (fun b => Not2 bb g b ∧ b < w4.heap.size) (fun q => q < bb) m n sl a2 c2 a1 c1 (ox l k).2 _ (by exact HX4.out.lt'.alloc _) (by exact Hxw4.out.alloc _) hv hm2 Hls.out hc2 hn1 hn (fun i hi => valid_len (Hrv.out i hi))).mono ?_; rintro e w5 ⟨a5, c5, a6, c6, rfl, hc5, hmc, hx5, hx6⟩
                 have hmr : Mod NoBlock w4 w5 := ((Mod.refl NoBlock w4).alloc _).trans hmc.undrew
                 have s0 : w5.cell? ⟨g, 0, Option.none⟩ = some (.int .i64 m) := hmr.cell (by exact g0) (fun h => h)
                 have s1 : w5.cell? ⟨g, 1, Option.none⟩ = some (.slice a2 n c2) := hmr.cell (by exact g1) (fun h => h)
                 have s2 : w5.cell? ⟨b, off + k * 2 + 1, Option.none⟩ = some (.slice a1 (ox l k).2.length c1) := hmr.cell (by exact r3) (fun h => h)
                 have hx5' := hx5.mono (D' := fun b => Not2 bb g b ∧ b ≠ w4.heap.size) (fun b _ h => h.elim (fun h => ⟨h.1, Nat.ne_of_lt h.2⟩) fun h => ⟨⟨by simp at h; omega, by simp at h; omega⟩, Nat.ne_of_gt (Nat.lt_of_succ_le (by simpa using h))⟩)
                 have hx6' := hx6.mono (D' := fun b => w4.heap.size ≤ b ∧ b ≠ w4.heap.size) (fun b _ h => ⟨Nat.le_of_succ_le (by simpa using h), Nat.ne_of_gt (Nat.lt_of_succ_le (by simpa using h))⟩)
                 have zb : w5.rowIs w4.heap.size 28 2 (fun i => (#[.int .i64 0, .slice Option.none 0 0] : Array Value).getD i undef) := (rowIs_new w4 #[.int .i64 0, .slice Option.none 0 0] 28).of_block (hmc.block _ (by simp) (fun h => h))
                 have z0 : w5.cell? ⟨w4.heap.size, 0, Option.none⟩ = some (.int .i64 0) := zb.cell (by omega)
                 have z2 : w5.frozen? ⟨w4.heap.size, 0, Option.none⟩ = false := zb.frozen 0
                 have z3 : ∀ v, (w5.setCell ⟨w4.heap.size, 0, Option.none⟩ v).frozen? ⟨w4.heap.size, 1, Option.none⟩ = false := fun v => (zb.set 0 v).frozen 1
                 have z4 : ∀ v, (w5.setCell ⟨w4.heap.size, 0, Option.none⟩ v).cell? ⟨w4.heap.size, 1, Option.none⟩ = some (.slice Option.none 0 0) := fun v => (zb.set 0 v).cell (by omega)))
          · have hmr6 : Mod NoBlock w4 (w5.alloc (.cells #[.int .i64 m, .slice a5 n c5] 28)) := hmr.alloc _
            have zb6 : (w5.alloc (.cells #[.int .i64 m, .slice a5 n c5] 28)).rowIs w5.heap.size 28 2 (fun i => (#[.int .i64 m, .slice a5 n c5] : Array Value).getD i undef) := rowIs_new w5 #[.int .i64 m, .slice a5 n c5] 28
            have hX6 := hx5'.alloc (.cells #[.int .i64 m, .slice a5 n c5] 28)
            have hx66 := hx6'.alloc (.cells #[.int .i64 m, .slice a5 n c5] 28)
            generalize w5.alloc (.cells #[.int .i64 m, .slice a5 n c5] 28) = W6 at hmr6 zb6 hX6 hx66 ⊢
            generalize w5.heap.size = t at zb6 ⊢
            clear hmr hx5' hx6' hmc hx5 hx6 s0 s1 s2
            have hboxg := Hbox4.out.of_block (hmr6.block g Hbox4.out.lt (fun h => h))
            have y0 : W6.cell? ⟨t, 0, Option.none⟩ = some (.int .i64 m) := zb6.cell (by omega)
            have y1 : W6.cell? ⟨t, 1, Option.none⟩ = some (.slice a5 n c5) := zb6.cell (by omega)
            have g0' : W6.cell? ⟨g, 0, Option.none⟩ = some (.int .i64 m) := hboxg.cell (by omega)
            have g3' : ∀ v, (W6.setCell ⟨g, 0, Option.none⟩ v).cell? ⟨g, 1, Option.none⟩ = some (.slice a2 n c2) := fun v => (hboxg.set 0 v).cell (by omega)
            have f0' : W6.frozen? ⟨g, 0, Option.none⟩ = false := hboxg.frozen 0
            have f1' : ∀ v, (W6.setCell ⟨g, 0, Option.none⟩ v).frozen? ⟨g, 1, Option.none⟩ = false := fun v => (hboxg.set 0 v).frozen 1
            have hs6 := hmr6.size
            have HB6 := Lib.hid (HB4.out.kept hmr6)
            have HX6 := Lib.hid hX6
            have Hx56 := Lib.hid (Hx4.out.frame hmr6)
            have Hx66 := Lib.hid hx66
            have Hm6 := Lib.hid (Hm4.out.trans hmr6.only)
            have Hboxg := Lib.hid hboxg
            have hlen2 : ((ox l k).2 :: sl.dropLast).length = n := by rw [List.length_cons, List.length_dropLast, Hls.out]; omega
            have hly : (rx sl (n - 1)).length = m := valid_len (Hrv.out (n - 1) (by omega))
            have Hlen2 := Lib.hid hlen2
            have Hly := Lib.hid hly
            clear hboxg hmr6 hX6 hx66 zb6 HB4 Hx4 Hm4 HX4 Hxw4 r3 g0 g1 Hbox4 hlen2 hly
            go_wp2_with fail
            have hm7 : Mod (fun b => b = g) W6 ((W6.setCell ⟨g, 0, Option.none⟩ (.int .i64 m)).setCell ⟨g, 1, Option.none⟩ (.slice a5 n c5)) := ((Mod.refl _ _).set1 0 _).set1 1 _
            have hbox7 := ((Hboxg.out.set 0 (.int .i64 m)).set 1 (.slice a5 n c5)).congr (g := fun i => if i = 0 then .int .i64 m else .slice a5 n c5) (fun i hi => by
              rcases (by omega : i = 0 ∨ i = 1) with rfl | rfl <;> rfl)
            generalize (W6.setCell ⟨g, 0, Option.none⟩ (.int .i64 m)).setCell ⟨g, 1, Option.none⟩ (.slice a5 n c5) = w7 at hm7 hbox7 ⊢
            have hs7 := hm7.size
            have HB7 := Lib.hid (HB6.out.mod hm7 (fun e => by omega) (fun b _ h e => h.2 e))
            have HX7 := Lib.hid (HX6.out.mod hm7 (fun b _ h e => h.2 e))
            have Hx57 := Lib.hid (Hx56.out.mod hm7 (fun b _ h e => h.2 e))
            have Hx67 := Lib.hid (Hx66.out.mod hm7 (fun b _ h e => by omega))
            have Hm7 := Lib.hid (Hm6.out.trans (hm7.mono fun b _ e => by omega))
            have Hbox7 := Lib.hid hbox7
            clear hm7 hbox7 HB6 HX6 Hx56 Hx66 Hm6 Hboxg g0' g3' f0' f1' y0 y1
            rw [Hls.out] at Hx57
            refine (same_eq a4 a6 c4 c6 m _ Hly.out Hx57.out Hx67.out).mono ?_
            rintro e w8 ⟨rfl, hm8⟩
            have hs8 := hm8.size
            have HBt := Lib.hid (HB7.out.kept hm8)
            have HXt := Lib.hid (HX7.out.frame hm8)
            have Hmt := Lib.hid (Hm7.out.trans hm8.only)
            have Hboxt := Lib.hid (Hbox7.out.of_block (hm8.block g Hbox7.out.lt (fun h => h)))
            clear hm8 HB7 HX7 Hm7 Hbox7 Hx57 Hx67
            have hboxt := Hboxt.out
            have gt0 : w8.cell? ⟨g, 0, Option.none⟩ = some (.int .i64 m) := hboxt.cell (by omega)
            have gt1 : w8.cell? ⟨g, 1, Option.none⟩ = some (.slice a5 n c5) := hboxt.cell (by omega)
            have HBd := Lib.hid HBt.out.drew
            have Hrvt := Lib.hid (show ∀ i, i < n → validL (rx ((ox l k).2 :: sl.dropLast) i) m = true from fun i hi => HBt.out.rows i (by rw [Hlen2.out]; exact hi))
            clear hboxt
            go_wp2
            go_region_held3 (fun w' => w'.cell? ⟨g, 0, Option.none⟩ = some (.int .i64 m) ∧ w'.cell? ⟨g, 1, Option.none⟩ = some (.slice a5 n c5))
              (first
                | go_keep
                | (go_split_ands
                   exact ⟨hmc.cell ‹_› (fun h => h), hmc.cell ‹_› (fun h => h)⟩))
              (first
                | (go_at_call 13; refine (slots_n (D := Not2 bb g) n Hlen2.out (fun q hq => by unfold Not2; simp at hq; omega) HBd.out).mono ?_; rintro e wt4 ⟨at4, ct4, rfl, hmc, hxt4⟩
                   have hk4 := hmc)
                | (go_at_call 12; refine (sameList_eq at4 a5 ct4 c5 n _ Hlen2.out hxt4 (by exact Mixes.frame (by exact HXt.out) hk4)).mono ?_; rintro e wt5 ⟨rfl, hmc⟩
                   have hk5 := hk4.trans hmc)
                | (go_at_call 15; refine (total_gen (D := Not2 bb g) (fun q hq => by unfold Not2; have := hk5.size; simp at this; omega) (HBd.out.kept hk5)).mono ?_; rintro e wt6 ⟨at6, rfl, hmc, hxt6⟩
                   have hk6 := hk5.trans hmc)
                | (go_at_call 16; refine (refTotal_any _ m n ((ox l k).2 :: sl.dropLast) a5 c5 _ (by exact Mixes.frame (by exact HXt.out) hk6) hm2 Hlen2.out hn Hrvt.out).mono ?_; rintro e wt7 ⟨at7, rfl, hmc, hxt7⟩
                   have hk7 := hk6.trans hmc
                   have hxt67 := hxt6.frame hmc)
                | (go_at_call 14; refine (same_eq at6 at7 m m m _ (totalL_length m _) hxt67 hxt7).mono ?_; rintro e wt8 ⟨rfl, hmc⟩
                   have hk8 := hk7.trans hmc))
            have hk9 : Mod NoBlock w8 _ := hk8.undrew
            have Hm9 := Lib.hid (Hmt.out.trans hk9.only)
            have HB9 := Lib.hid (HBt.out.kept hk9)
            have HX9 := Lib.hid (HXt.out.frame hk9)
            have Hbox9 := Lib.hid (Hboxt.out.of_block (hk9.block g Hboxt.out.lt (fun h => h)))
            clear hk9
            go_wp2
            exact ⟨⟨k + 1, (ox l k).2 :: sl.dropLast, a5, c5, by omega, by go_num, Hm9.out, Hlen2.out, hc5, HB9.out, HX9.out, Hbox9.out⟩, by simp [intOf]; omega⟩
          · have hmr6 : Mod NoBlock w4 ((w5.setCell ⟨w4.heap.size, 0, Option.none⟩ (.int .i64 m)).setCell ⟨w4.heap.size, 1, Option.none⟩ (.slice a5 n c5)) := (hmr.setCell (p := ⟨w4.heap.size, 0, Option.none⟩) (.inr (Nat.le_refl _)) _).setCell (p := ⟨w4.heap.size, 1, Option.none⟩) (.inr (Nat.le_refl _)) _
            have hmz : Mod (fun b => b = w4.heap.size) w5 ((w5.setCell ⟨w4.heap.size, 0, Option.none⟩ (.int .i64 m)).setCell ⟨w4.heap.size, 1, Option.none⟩ (.slice a5 n c5)) := ((Mod.refl _ _).set1 0 _).set1 1 _
            have zb6 := ((zb.set 0 (.int .i64 m)).set 1 (.slice a5 n c5)).congr (g := fun i => (#[.int .i64 m, .slice a5 n c5] : Array Value).getD i undef) (fun i hi => by
              rcases (by omega : i = 0 ∨ i = 1) with rfl | rfl <;> rfl)
            have hX6 := (hx5'.mod hmz (fun b _ h e => h.2 e)).mono (D' := Not2 bb g) (fun b _ h => h.1)
            have hx66 := (hx6'.mod hmz (fun b _ h e => h.2 e)).mono (D' := fun b => w4.heap.size ≤ b) (fun b _ h => h.1)
            generalize (w5.setCell ⟨w4.heap.size, 0, Option.none⟩ (.int .i64 m)).setCell ⟨w4.heap.size, 1, Option.none⟩ (.slice a5 n c5) = W6 at hmr6 zb6 hX6 hx66 ⊢
            clear hmr hx5' hx6' hmc hx5 hx6 s0 s1 s2 zb z0 z2 z3 z4 hmz
            obtain ⟨t, ht⟩ : ∃ t, w4.heap.size = t := ⟨_, rfl⟩
            rw [ht] at zb6 ⊢
            have hboxg := Hbox4.out.of_block (hmr6.block g Hbox4.out.lt (fun h => h))
            have y0 : W6.cell? ⟨t, 0, Option.none⟩ = some (.int .i64 m) := zb6.cell (by omega)
            have y1 : W6.cell? ⟨t, 1, Option.none⟩ = some (.slice a5 n c5) := zb6.cell (by omega)
            have g0' : W6.cell? ⟨g, 0, Option.none⟩ = some (.int .i64 m) := hboxg.cell (by omega)
            have g3' : ∀ v, (W6.setCell ⟨g, 0, Option.none⟩ v).cell? ⟨g, 1, Option.none⟩ = some (.slice a2 n c2) := fun v => (hboxg.set 0 v).cell (by omega)
            have f0' : W6.frozen? ⟨g, 0, Option.none⟩ = false := hboxg.frozen 0
            have f1' : ∀ v, (W6.setCell ⟨g, 0, Option.none⟩ v).frozen? ⟨g, 1, Option.none⟩ = false := fun v => (hboxg.set 0 v).frozen 1
            have hs6 := hmr6.size
            have HB6 := Lib.hid (HB4.out.kept hmr6)
            have HX6 := Lib.hid hX6
            have Hx56 := Lib.hid (Hx4.out.frame hmr6)
            have Hx66 := Lib.hid hx66
            have Hm6 := Lib.hid (Hm4.out.trans hmr6.only)
            have Hboxg := Lib.hid hboxg
            have hlen2 : ((ox l k).2 :: sl.dropLast).length = n := by rw [List.length_cons, List.length_dropLast, Hls.out]; omega
            have hly : (rx sl (n - 1)).length = m := valid_len (Hrv.out (n - 1) (by omega))
            have Hlen2 := Lib.hid hlen2
            have Hly := Lib.hid hly
            clear hboxg hmr6 hX6 hx66 zb6 HB4 Hx4 Hm4 HX4 Hxw4 r3 g0 g1 Hbox4 hlen2 hly
            go_wp2_with fail
            have hm7 : Mod (fun b => b = g) W6 ((W6.setCell ⟨g, 0, Option.none⟩ (.int .i64 m)).setCell ⟨g, 1, Option.none⟩ (.slice a5 n c5)) := ((Mod.refl _ _).set1 0 _).set1 1 _
            have hbox7 := ((Hboxg.out.set 0 (.int .i64 m)).set 1 (.slice a5 n c5)).congr (g := fun i => if i = 0 then .int .i64 m else .slice a5 n c5) (fun i hi => by
              rcases (by omega : i = 0 ∨ i = 1) with rfl | rfl <;> rfl)
            generalize (W6.setCell ⟨g, 0, Option.none⟩ (.int .i64 m)).setCell ⟨g, 1, Option.none⟩ (.slice a5 n c5) = w7 at hm7 hbox7 ⊢
            have hs7 := hm7.size
            have HB7 := Lib.hid (HB6.out.mod hm7 (fun e => by omega) (fun b _ h e => h.2 e))
            have HX7 := Lib.hid (HX6.out.mod hm7 (fun b _ h e => h.2 e))
            have Hx57 := Lib.hid (Hx56.out.mod hm7 (fun b _ h e => h.2 e))
            have Hx67 := Lib.hid (Hx66.out.mod hm7 (fun b _ h e => by omega))
            have Hm7 := Lib.hid (Hm6.out.trans (hm7.mono fun b _ e => by omega))
            have Hbox7 := Lib.hid hbox7
            clear hm7 hbox7 HB6 HX6 Hx56 Hx66 Hm6 Hboxg g0' g3' f0' f1' y0 y1
            rw [Hls.out] at Hx57
            refine (same_eq a4 a6 c4 c6 m _ Hly.out Hx57.out Hx67.out).mono ?_
            rintro e w8 ⟨rfl, hm8⟩
            have hs8 := hm8.size
            have HBt := Lib.hid (HB7.out.kept hm8)
            have HXt := Lib.hid (HX7.out.frame hm8)
            have Hmt := Lib.hid (Hm7.out.trans hm8.only)
            have Hboxt := Lib.hid (Hbox7.out.of_block (hm8.block g Hbox7.out.lt (fun h => h)))
            clear hm8 HB7 HX7 Hm7 Hbox7 Hx57 Hx67
            have hboxt := Hboxt.out
            have gt0 : w8.cell? ⟨g, 0, Option.none⟩ = some (.int .i64 m) := hboxt.cell (by omega)
            have gt1 : w8.cell? ⟨g, 1, Option.none⟩ = some (.slice a5 n c5) := hboxt.cell (by omega)
            have HBd := Lib.hid HBt.out.drew
            have Hrvt := Lib.hid (show ∀ i, i < n → validL (rx ((ox l k).2 :: sl.dropLast) i) m = true from fun i hi => HBt.out.rows i (by rw [Hlen2.out]; exact hi))
            clear hboxt
            go_wp2
            go_region_held3 (fun w' => w'.cell? ⟨g, 0, Option.none⟩ = some (.int .i64 m) ∧ w'.cell? ⟨g, 1, Option.none⟩ = some (.slice a5 n c5))
              (first
                | go_keep
                | (go_split_ands
                   exact ⟨hmc.cell ‹_› (fun h => h), hmc.cell ‹_› (fun h => h)⟩))
              (first
                | (go_at_call 13; refine (slots_n (D := Not2 bb g) n Hlen2.out (fun q hq => by unfold Not2; simp at hq; omega) HBd.out).mono ?_; rintro e wt4 ⟨at4, ct4, rfl, hmc, hxt4⟩
                   have hk4 := hmc)
                | (go_at_call 12; refine (sameList_eq at4 a5 ct4 c5 n _ Hlen2.out hxt4 (by exact Mixes.frame (by exact HXt.out) hk4)).mono ?_; rintro e wt5 ⟨rfl, hmc⟩
                   have hk5 := hk4.trans hmc)
                | (go_at_call 15; refine (total_gen (D := Not2 bb g) (fun q hq => by unfold Not2; have := hk5.size; simp at this; omega) (HBd.out.kept hk5)).mono ?_; rintro e wt6 ⟨at6, rfl, hmc, hxt6⟩
                   have hk6 := hk5.trans hmc)
                | (go_at_call 16; refine (refTotal_any _ m n ((ox l k).2 :: sl.dropLast) a5 c5 _ (by exact Mixes.frame (by exact HXt.out) hk6) hm2 Hlen2.out hn Hrvt.out).mono ?_; rintro e wt7 ⟨at7, rfl, hmc, hxt7⟩
                   have hk7 := hk6.trans hmc
                   have hxt67 := hxt6.frame hmc)
                | (go_at_call 14; refine (same_eq at6 at7 m m m _ (totalL_length m _) hxt67 hxt7).mono ?_; rintro e wt8 ⟨rfl, hmc⟩
                   have hk8 := hk7.trans hmc))
            have hk9 : Mod NoBlock w8 _ := hk8.undrew
            have Hm9 := Lib.hid (Hmt.out.trans hk9.only)
            have HB9 := Lib.hid (HBt.out.kept hk9)
            have HX9 := Lib.hid (HXt.out.frame hk9)
            have Hbox9 := Lib.hid (Hboxt.out.of_block (hk9.block g Hboxt.out.lt (fun h => h)))
            clear hk9
            go_wp2
            exact ⟨⟨k + 1, (ox l k).2 :: sl.dropLast, a5, c5, by omega, by go_num, Hm9.out, Hlen2.out, hc5, HB9.out, HX9.out, Hbox9.out⟩, by simp [intOf]; omega⟩
        · have hv' : validL (ox l k).2 m = false := by simpa using hv
          clear hv
          refine (step_bad (Not2 bb g) (fun q => q < bb) _ _ _ _ c1 (ox l k).2 _ HB.out Hxw.out hv').mono ?_
          rintro e w4 ⟨rfl, hm4⟩
          have hs4 := hm4.size
          have hbox4 := Hbox.out.of_block (hm4.block g Hbox.out.lt (fun h => h))
          have Hm4 := Lib.hid (Hmod.out.trans hm4.only)
          have HX4 := Lib.hid (HX.out.frame hm4)
          have HB4 := Lib.hid (HB.out.kept hm4)
          have Hxw4 := Lib.hid (Hxw.out.frame hm4)
          have r3 := hm4.cell r2 (fun h => h)
          clear hm4 HB HX Hmod g0 g1 f0 f1 r1 r2 Hxw
          have g0 : w4.cell? ⟨g, 0, Option.none⟩ = some (.int .i64 m) := hbox4.cell (by omega)
          have g1 : w4.cell? ⟨g, 1, Option.none⟩ = some (.slice a2 n c2) := hbox4.cell (by omega)
          have Hbox4 := Lib.hid hbox4
          clear hbox4 Hbox
          go_wp2
          go_region_held3 (fun w' => w'.cell? ⟨g, 0, Option.none⟩ = some (.int .i64 m) ∧ w'.cell? ⟨g, 1, Option.none⟩ = some (.slice a2 n c2) ∧ w'.cell? ⟨b, off + k * 2 + 1, Option.none⟩ = some (.slice a1 (ox l k).2.length c1))
            (first
              | go_keep
              | (go_split_ands
                 exact ⟨s0, s1, s2⟩)
              | (go_split_ands
                 exact ⟨((Mod.refl NoBlock w5).alloc _).cell s0 (fun h => h), ((Mod.refl NoBlock w5).alloc _).cell s1 (fun h => h), ((Mod.refl NoBlock w5).alloc _).cell s2 (fun h => h)⟩)
              | (go_split_ands
                 exact ⟨(((Mod.refl (fun b => b = w4.heap.size) w5).set1 0 _).set1 1 _).cell s0 (by simp; omega), (((Mod.refl (fun b => b = w4.heap.size) w5).set1 0 _).set1 1 _).cell s1 (by simp; omega), (((Mod.refl (fun b => b = w4.heap.size) w5).set1 0 _).set1 1 _).cell s2 (by simp; omega)⟩))
            (first
              | (go_at_call 22; refine (refStep_bad (fun q => q < bb) m undef a1 c1 (ox l k).2 _ (by exact Hxw4.out) a2 n c2 hv').mono ?_; rintro e w5 ⟨rfl, hmc⟩
                 have s0 : w5.cell? ⟨g, 0, Option.none⟩ = some (.int .i64 m) := hmc.cell (by exact g0) (fun h => h)
                 have s1 : w5.cell? ⟨g, 1, Option.none⟩ = some (.slice a2 n c2) := hmc.cell (by exact g1) (fun h => h)
                 have s2 : w5.cell? ⟨b, off + k * 2 + 1, Option.none⟩ = some (.slice a1 (ox l k).2.length c1) := hmc.cell (by exact r3) (fun h => h)
                 have hmr : Mod NoBlock w4 w5 := hmc.undrew)
              | (go_at_call 22; refine (refStep_bad (fun q => q < bb) m undef a1 c1 (ox l k).2 _ (by exact Hxw4.out.alloc _) a2 n c2 hv').mono ?_; rintro e w5 ⟨rfl, hmc⟩
                 have hmr : Mod NoBlock w4 w5 := ((Mod.refl NoBlock w4).alloc _).trans hmc.undrew
                 have s0 : w5.cell? ⟨g, 0, Option.none⟩ = some (.int .i64 m) := hmr.cell (by exact g0) (fun h => h)
                 have s1 : w5.cell? ⟨g, 1, Option.none⟩ = some (.slice a2 n c2) := hmr.cell (by exact g1) (fun h => h)
                 have s2 : w5.cell? ⟨b, off + k * 2 + 1, Option.none⟩ = some (.slice a1 (ox l k).2.length c1) := hmr.cell (by exact r3) (fun h => h)
                 have zb : w5.rowIs w4.heap.size 28 2 (fun i => (#[.int .i64 0, .slice Option.none 0 0] : Array Value).getD i undef) := (rowIs_new w4 #[.int .i64 0, .slice Option.none 0 0] 28).of_block (hmc.block _ (by simp) (fun h => h))
                 have z0 : w5.cell? ⟨w4.heap.size, 0, Option.none⟩ = some (.int .i64 0) := zb.cell (by omega)
                 have z2 : w5.frozen? ⟨w4.heap.size, 0, Option.none⟩ = false := zb.frozen 0
                 have z3 : ∀ v, (w5.setCell ⟨w4.heap.size, 0, Option.none⟩ v).frozen? ⟨w4.heap.size, 1, Option.none⟩ = false := fun v => (zb.set 0 v).frozen 1
                 have z4 : ∀ v, (w5.setCell ⟨w4.heap.size, 0, Option.none⟩ v).cell? ⟨w4.heap.size, 1, Option.none⟩ = some (.slice Option.none 0 0) := fun v => (zb.set 0 v).cell (by omega)))
          · have hmr6 : Mod NoBlock w4 (w5.alloc (.cells #[.int .i64 m, .slice a2 n c2] 28)) := hmr.alloc _
            have zb6 : (w5.alloc (.cells #[.int .i64 m, .slice a2 n c2] 28)).rowIs w5.heap.size 28 2 (fun i => (#[.int .i64 m, .slice a2 n c2] : Array Value).getD i undef) := rowIs_new w5 #[.int .i64 m, .slice a2 n c2] 28
            have hX6 := HX4.out.frame hmr6
            generalize w5.alloc (.cells #[.int .i64 m, .slice a2 n c2] 28) = W6 at hmr6 zb6 hX6 ⊢
            generalize w5.heap.size = t at zb6 ⊢
            clear hmr hmc s0 s1 s2
            have hboxg := Hbox4.out.of_block (hmr6.block g Hbox4.out.lt (fun h => h))
            have y0 : W6.cell? ⟨t, 0, Option.none⟩ = some (.int .i64 m) := zb6.cell (by omega)
            have y1 : W6.cell? ⟨t, 1, Option.none⟩ = some (.slice a2 n c2) := zb6.cell (by omega)
            have g0' : W6.cell? ⟨g, 0, Option.none⟩ = some (.int .i64 m) := hboxg.cell (by omega)
            have g3' : ∀ v, (W6.setCell ⟨g, 0, Option.none⟩ v).cell? ⟨g, 1, Option.none⟩ = some (.slice a2 n c2) := fun v => (hboxg.set 0 v).cell (by omega)
            have f0' : W6.frozen? ⟨g, 0, Option.none⟩ = false := hboxg.frozen 0
            have f1' : ∀ v, (W6.setCell ⟨g, 0, Option.none⟩ v).frozen? ⟨g, 1, Option.none⟩ = false := fun v => (hboxg.set 0 v).frozen 1
            have hs6 := hmr6.size
            have HB6 := Lib.hid (HB4.out.kept hmr6)
            have HX6 := Lib.hid hX6
            have Hm6 := Lib.hid (Hm4.out.trans hmr6.only)
            have Hboxg := Lib.hid hboxg
            clear hboxg hmr6 hX6 zb6 HB4 Hm4 HX4 r3 g0 g1 Hbox4
            go_wp2_with fail
            have hm7 : Mod (fun b => b = g) W6 ((W6.setCell ⟨g, 0, Option.none⟩ (.int .i64 m)).setCell ⟨g, 1, Option.none⟩ (.slice a2 n c2)) := ((Mod.refl _ _).set1 0 _).set1 1 _
            have hbox7 := ((Hboxg.out.set 0 (.int .i64 m)).set 1 (.slice a2 n c2)).congr (g := fun i => if i = 0 then .int .i64 m else .slice a2 n c2) (fun i hi => by
              rcases (by omega : i = 0 ∨ i = 1) with rfl | rfl <;> rfl)
            generalize (W6.setCell ⟨g, 0, Option.none⟩ (.int .i64 m)).setCell ⟨g, 1, Option.none⟩ (.slice a2 n c2) = w7 at hm7 hbox7 ⊢
            have hs7 := hm7.size
            have HB7 := Lib.hid (HB6.out.mod hm7 (fun e => by omega) (fun b _ h e => h.2 e))
            have HX7 := Lib.hid (HX6.out.mod hm7 (fun b _ h e => h.2 e))
            have Hm7 := Lib.hid (Hm6.out.trans (hm7.mono fun b _ e => by omega))
            have Hbox7 := Lib.hid hbox7
            clear hm7 hbox7 HB6 HX6 Hm6 Hboxg g0' g3' f0' f1' y0 y1
            refine (same_eq _ _ 0 0 0 [] rfl (Ints.nil NoBlock _ _) (Ints.nil NoBlock _ _)).mono ?_
            rintro e w8 ⟨rfl, hm8⟩
            have hs8 := hm8.size
            have HBt := Lib.hid (HB7.out.kept hm8)
            have HXt := Lib.hid (HX7.out.frame hm8)
            have Hmt := Lib.hid (Hm7.out.trans hm8.only)
            have Hboxt := Lib.hid (Hbox7.out.of_block (hm8.block g Hbox7.out.lt (fun h => h)))
            clear hm8 HB7 HX7 Hm7 Hbox7
            have hboxt := Hboxt.out
            have gt0 : w8.cell? ⟨g, 0, Option.none⟩ = some (.int .i64 m) := hboxt.cell (by omega)
            have gt1 : w8.cell? ⟨g, 1, Option.none⟩ = some (.slice a2 n c2) := hboxt.cell (by omega)
            have HBd := Lib.hid HBt.out.drew
            have Hrvt := Lib.hid (show ∀ i, i < n → validL (rx (sl) i) m = true from fun i hi => HBt.out.rows i (by rw [Hls.out]; exact hi))
            clear hboxt
            go_wp2
            go_region_held3 (fun w' => w'.cell? ⟨g, 0, Option.none⟩ = some (.int .i64 m) ∧ w'.cell? ⟨g, 1, Option.none⟩ = some (.slice a2 n c2))
              (first
                | go_keep
                | (go_split_ands
                   exact ⟨hmc.cell ‹_› (fun h => h), hmc.cell ‹_› (fun h => h)⟩))
              (first
                | (go_at_call 13; refine (slots_n (D := Not2 bb g) n Hls.out (fun q hq => by unfold Not2; simp at hq; omega) HBd.out).mono ?_; rintro e wt4 ⟨at4, ct4, rfl, hmc, hxt4⟩
                   have hk4 := hmc)
                | (go_at_call 12; refine (sameList_eq at4 a2 ct4 c2 n _ Hls.out hxt4 (by exact Mixes.frame (by exact HXt.out) hk4)).mono ?_; rintro e wt5 ⟨rfl, hmc⟩
                   have hk5 := hk4.trans hmc)
                | (go_at_call 15; refine (total_gen (D := Not2 bb g) (fun q hq => by unfold Not2; have := hk5.size; simp at this; omega) (HBd.out.kept hk5)).mono ?_; rintro e wt6 ⟨at6, rfl, hmc, hxt6⟩
                   have hk6 := hk5.trans hmc)
                | (go_at_call 16; refine (refTotal_any _ m n (sl) a2 c2 _ (by exact Mixes.frame (by exact HXt.out) hk6) hm2 Hls.out hn Hrvt.out).mono ?_; rintro e wt7 ⟨at7, rfl, hmc, hxt7⟩
                   have hk7 := hk6.trans hmc
                   have hxt67 := hxt6.frame hmc)
                | (go_at_call 14; refine (same_eq at6 at7 m m m _ (totalL_length m _) hxt67 hxt7).mono ?_; rintro e wt8 ⟨rfl, hmc⟩
                   have hk8 := hk7.trans hmc))
            have hk9 : Mod NoBlock w8 _ := hk8.undrew
            have Hm9 := Lib.hid (Hmt.out.trans hk9.only)
            have HB9 := Lib.hid (HBt.out.kept hk9)
            have HX9 := Lib.hid (HXt.out.frame hk9)
            have Hbox9 := Lib.hid (Hboxt.out.of_block (hk9.block g Hboxt.out.lt (fun h => h)))
            clear hk9
            go_wp2
            exact ⟨⟨k + 1, sl, a2, c2, by omega, by go_num, Hm9.out, Hls.out, hc2, HB9.out, HX9.out, Hbox9.out⟩, by simp [intOf]; omega⟩
          · have hmr6 : Mod NoBlock w4 ((w5.setCell ⟨w4.heap.size, 0, Option.none⟩ (.int .i64 m)).setCell ⟨w4.heap.size, 1, Option.none⟩ (.slice a2 n c2)) := (hmr.setCell (p := ⟨w4.heap.size, 0, Option.none⟩) (.inr (Nat.le_refl _)) _).setCell (p := ⟨w4.heap.size, 1, Option.none⟩) (.inr (Nat.le_refl _)) _
            have zb6 := ((zb.set 0 (.int .i64 m)).set 1 (.slice a2 n c2)).congr (g := fun i => (#[.int .i64 m, .slice a2 n c2] : Array Value).getD i undef) (fun i hi => by
              rcases (by omega : i = 0 ∨ i = 1) with rfl | rfl <;> rfl)
            have hX6 := HX4.out.frame hmr6
            generalize (w5.setCell ⟨w4.heap.size, 0, Option.none⟩ (.int .i64 m)).setCell ⟨w4.heap.size, 1, Option.none⟩ (.slice a2 n c2) = W6 at hmr6 zb6 hX6 ⊢
            clear hmr hmc s0 s1 s2 zb z0 z2 z3 z4
            obtain ⟨t, ht⟩ : ∃ t, w4.heap.size = t := ⟨_, rfl⟩
            rw [ht] at zb6 ⊢
            have hboxg := Hbox4.out.of_block (hmr6.block g Hbox4.out.lt (fun h => h))
            have y0 : W6.cell? ⟨t, 0, Option.none⟩ = some (.int .i64 m) := zb6.cell (by omega)
            have y1 : W6.cell? ⟨t, 1, Option.none⟩ = some (.slice a2 n c2) := zb6.cell (by omega)
            have g0' : W6.cell? ⟨g, 0, Option.none⟩ = some (.int .i64 m) := hboxg.cell (by omega)
            have g3' : ∀ v, (W6.setCell ⟨g, 0, Option.none⟩ v).cell? ⟨g, 1, Option.none⟩ = some (.slice a2 n c2) := fun v => (hboxg.set 0 v).cell (by omega)
            have f0' : W6.frozen? ⟨g, 0, Option.none⟩ = false := hboxg.frozen 0
            have f1' : ∀ v, (W6.setCell ⟨g, 0, Option.none⟩ v).frozen? ⟨g, 1, Option.none⟩ = false := fun v => (hboxg.set 0 v).frozen 1
            have hs6 := hmr6.size
            have HB6 := Lib.hid (HB4.out.kept hmr6)
            have HX6 := Lib.hid hX6
            have Hm6 := Lib.hid (Hm4.out.trans hmr6.only)
            have Hboxg := Lib.hid hboxg
            clear hboxg hmr6 hX6 zb6 HB4 Hm4 HX4 r3 g0 g1 Hbox4
            go_wp2_with fail
            have hm7 : Mod (fun b => b = g) W6 ((W6.setCell ⟨g, 0, Option.none⟩ (.int .i64 m)).setCell ⟨g, 1, Option.none⟩ (.slice a2 n c2)) := ((Mod.refl _ _).set1 0 _).set1 1 _
            have hbox7 := ((Hboxg.out.set 0 (.int .i64 m)).set 1 (.slice a2 n c2)).congr (g := fun i => if i = 0 then .int .i64 m else .slice a2 n c2) (fun i hi => by
              rcases (by omega : i = 0 ∨ i = 1) with rfl | rfl <;> rfl)
            generalize (W6.setCell ⟨g, 0, Option.none⟩ (.int .i64 m)).setCell ⟨g, 1, Option.none⟩ (.slice a2 n c2) = w7 at hm7 hbox7 ⊢
            have hs7 := hm7.size
            have HB7 := Lib.hid (HB6.out.mod hm7 (fun e => by omega) (fun b _ h e => h.2 e))
            have HX7 := Lib.hid (HX6.out.mod hm7 (fun b _ h e => h.2 e))
            have Hm7 := Lib.hid (Hm6.out.trans (hm7.mono fun b _ e => by omega))
            have Hbox7 := Lib.hid hbox7
            clear hm7 hbox7 HB6 HX6 Hm6 Hboxg g0' g3' f0' f1' y0 y1
            refine (same_eq _ _ 0 0 0 [] rfl (Ints.nil NoBlock _ _) (Ints.nil NoBlock _ _)).mono ?_
            rintro e w8 ⟨rfl, hm8⟩
            have hs8 := hm8.size
            have HBt := Lib.hid (HB7.out.kept hm8)
            have HXt := Lib.hid (HX7.out.frame hm8)
            have Hmt := Lib.hid (Hm7.out.trans hm8.only)
            have Hboxt := Lib.hid (Hbox7.out.of_block (hm8.block g Hbox7.out.lt (fun h => h)))
            clear hm8 HB7 HX7 Hm7 Hbox7
            have hboxt := Hboxt.out
            have gt0 : w8.cell? ⟨g, 0, Option.none⟩ = some (.int .i64 m) := hboxt.cell (by omega)
            have gt1 : w8.cell? ⟨g, 1, Option.none⟩ = some (.slice a2 n c2) := hboxt.cell (by omega)
            have HBd := Lib.hid HBt.out.drew
            have Hrvt := Lib.hid (show ∀ i, i < n → validL (rx (sl) i) m = true from fun i hi => HBt.out.rows i (by rw [Hls.out]; exact hi))
            clear hboxt
            go_wp2
            go_region_held3 (fun w' => w'.cell? ⟨g, 0, Option.none⟩ = some (.int .i64 m) ∧ w'.cell? ⟨g, 1, Option.none⟩ = some (.slice a2 n c2))
              (first
                | go_keep
                | (go_split_ands
                   exact ⟨hmc.cell ‹_› (fun h => h), hmc.cell ‹_› (fun h => h)⟩))
              (first
                | (go_at_call 13; refine (slots_n (D := Not2 bb g) n Hls.out (fun q hq => by unfold Not2; simp at hq; omega) HBd.out).mono ?_; rintro e wt4 ⟨at4, ct4, rfl, hmc, hxt4⟩
                   have hk4 := hmc)
                | (go_at_call 12; refine (sameList_eq at4 a2 ct4 c2 n _ Hls.out hxt4 (by exact Mixes.frame (by exact HXt.out) hk4)).mono ?_; rintro e wt5 ⟨rfl, hmc⟩
                   have hk5 := hk4.trans hmc)
                | (go_at_call 15; refine (total_gen (D := Not2 bb g) (fun q hq => by unfold Not2; have := hk5.size; simp at this; omega) (HBd.out.kept hk5)).mono ?_; rintro e wt6 ⟨at6, rfl, hmc, hxt6⟩
                   have hk6 := hk5.trans hmc)
                | (go_at_call 16; refine (refTotal_any _ m n (sl) a2 c2 _ (by exact Mixes.frame (by exact HXt.out) hk6) hm2 Hls.out hn Hrvt.out).mono ?_; rintro e wt7 ⟨at7, rfl, hmc, hxt7⟩
                   have hk7 := hk6.trans hmc
                   have hxt67 := hxt6.frame hmc)
                | (go_at_call 14; refine (same_eq at6 at7 m m m _ (totalL_length m _) hxt67 hxt7).mono ?_; rintro e wt8 ⟨rfl, hmc⟩
                   have hk8 := hk7.trans hmc))
            have hk9 : Mod NoBlock w8 _ := hk8.undrew
            have Hm9 := Lib.hid (Hmt.out.trans hk9.only)
            have HB9 := Lib.hid (HBt.out.kept hk9)
            have HX9 := Lib.hid (HXt.out.frame hk9)
            have Hbox9 := Lib.hid (Hboxt.out.of_block (hk9.block g Hboxt.out.lt (fun h => h)))
            clear hk9
            go_wp2
            exact ⟨⟨k + 1, sl, a2, c2, by omega, by go_num, Hm9.out, Hls.out, hc2, HB9.out, HX9.out, Hbox9.out⟩, by simp [intOf]; omega⟩
      · rw [hbo] at r1
        go_wp2_with fail
        clear r1 r2 Hxw
        refine (clear_gen (fun q hq => by unfold Not2; omega) HB.out).mono ?_
        rintro e w4 ⟨a4, rfl, hm4, hx4, hb4⟩
        rw [Hls.out] at hb4
        have hs4 := hm4.size
        have hbox4 := Hbox.out.of_block (hm4.block g Hbox.out.lt (by omega))
        have Hm4 := Lib.hid (Hmod.out.trans (hm4.mono fun b _ e => by omega))
        have HX4 := Lib.hid (HX.out.mod hm4 (fun b _ h e => h.1 e))
        have Hx4 := Lib.hid hx4
        have HB4 := Lib.hid hb4
        clear hm4 hx4 hb4 HB HX Hmod g0 g1 f0 f1
        have g0 : w4.cell? ⟨g, 0, Option.none⟩ = some (.int .i64 m) := hbox4.cell (by omega)
        have g1 : w4.cell? ⟨g, 1, Option.none⟩ = some (.slice a2 n c2) := hbox4.cell (by omega)
        have Hbox4 := Lib.hid hbox4
        clear hbox4 Hbox
        go_wp2_with fail
        refine (refClear_any _ m n sl a2 c2 _ HX4.out hm hm2 Hls.out hn1 hn Hrv.out).mono ?_
        rintro e w5 ⟨a5, c5, a6, rfl, hc5, hm5, hx5, hx6⟩
        have hs5 := hm5.size
        have hbox5 := Hbox4.out.of_block (hm5.block g Hbox4.out.lt (fun h => h))
        have g0' : w5.cell? ⟨g, 0, Option.none⟩ = some (.int .i64 m) := hbox5.cell (by omega)
        have g1' : w5.cell? ⟨g, 1, Option.none⟩ = some (.slice a2 n c2) := hbox5.cell (by omega)
        have f0' : ∀ o, (w5.alloc o).frozen? ⟨g, 0, Option.none⟩ = false := fun o => (hbox5.alloc o).frozen 0
        have f1' : ∀ o v, ((w5.alloc o).setCell ⟨g, 0, Option.none⟩ v).frozen? ⟨g, 1, Option.none⟩ = false := fun o v => ((hbox5.alloc o).set 0 v).frozen 1
        have g2' : ∀ o, (w5.alloc o).cell? ⟨g, 0, Option.none⟩ = some (.int .i64 m) := fun o => (hbox5.alloc o).cell (by omega)
        have g3' : ∀ o v, ((w5.alloc o).setCell ⟨g, 0, Option.none⟩ v).cell? ⟨g, 1, Option.none⟩ = some (.slice a2 n c2) := fun o v => ((hbox5.alloc o).set 0 v).cell (by omega)
        have hm5' : Mod NoBlock w4 (w5.alloc (.cells #[.int .i64 m, .slice a5 n c5] 28)) := hm5.alloc _
        have Hbox5 := Lib.hid hbox5
        have Hm5 := Lib.hid (Hm4.out.trans hm5.only)
        have HB5 := Lib.hid (HB4.out.kept hm5)
        have HX5 := Lib.hid (hx5.mono (D' := Not2 bb g) fun b _ h => ⟨by omega, by omega⟩)
        have Hx5 := Lib.hid (Hx4.out.frame hm5)
        have Hx6 := Lib.hid hx6
        clear hbox5 hm5 hx5 hx6 Hm4 HX4 Hx4 HB4 g0 g1 Hbox4 hm5'
        go_wp2_with fail
        have hm6 : Mod (fun b => b = g) w5 (((w5.alloc (.cells #[.int .i64 m, .slice a5 n c5] 28)).setCell ⟨g, 0, Option.none⟩ (.int .i64 m)).setCell ⟨g, 1, Option.none⟩ (.slice a5 n c5)) := (((Mod.refl _ _).alloc _).set1 0 _).set1 1 _
        have hbox6 := (((Hbox5.out.alloc (.cells #[.int .i64 m, .slice a5 n c5] 28)).set 0 (.int .i64 m)).set 1 (.slice a5 n c5)).congr (g := fun i => if i = 0 then .int .i64 m else .slice a5 n c5) (fun i hi => by
          rcases (by omega : i = 0 ∨ i = 1) with rfl | rfl <;> rfl)
        generalize ((w5.alloc (.cells #[.int .i64 m, .slice a5 n c5] 28)).setCell ⟨g, 0, Option.none⟩ (.int .i64 m)).setCell ⟨g, 1, Option.none⟩ (.slice a5 n c5) = w6 at hm6 hbox6 ⊢
        have hs6 := hm6.size
        have HB6 := Lib.hid (HB5.out.mod hm6 (fun e => by omega) (fun b _ h e => h.2 e))
        have HX6 := Lib.hid (HX5.out.mod hm6 (fun b _ h e => h.2 e))
        have Hx56 := Lib.hid (Hx5.out.mod hm6 (fun b _ h e => h.2 e))
        have Hx66 := Lib.hid (Hx6.out.mod hm6 (fun b _ h e => by omega))
        have Hm6 := Lib.hid (Hm5.out.trans (hm6.mono fun b _ e => by omega))
        have Hbox6 := Lib.hid hbox6
        clear hm6 hbox6 HB5 HX5 Hx5 Hx6 Hm5 Hbox5 g0' g1' g2' g3' f0' f1'
        refine (same_eq a4 a6 m m m _ (totalL_length m _) Hx56.out Hx66.out).mono ?_
        rintro e w7 ⟨rfl, hm7⟩
        have hs7 := hm7.size
        have HBt := Lib.hid (HB6.out.kept hm7)
        have HXt := Lib.hid (HX6.out.frame hm7)
        have Hmt := Lib.hid (Hm6.out.trans hm7.only)
        have Hboxt := Lib.hid (Hbox6.out.of_block (hm7.block g Hbox6.out.lt (fun h => h)))
        clear hm7 HB6 HX6 Hm6 Hbox6 Hx56 Hx66
        have hboxt := Hboxt.out
        have gt0 : w7.cell? ⟨g, 0, Option.none⟩ = some (.int .i64 m) := hboxt.cell (by omega)
        have gt1 : w7.cell? ⟨g, 1, Option.none⟩ = some (.slice a5 n c5) := hboxt.cell (by omega)
        have HBd := Lib.hid HBt.out.drew
        have Hrvt := Lib.hid (show ∀ i, i < n → validL (rx (noughts n m) i) m = true from fun i hi => HBt.out.rows i (by rw [(noughts_length n m)]; exact hi))
        clear hboxt
        go_wp2
        go_region_held3 (fun w' => w'.cell? ⟨g, 0, Option.none⟩ = some (.int .i64 m) ∧ w'.cell? ⟨g, 1, Option.none⟩ = some (.slice a5 n c5))
          (first
            | go_keep
            | (go_split_ands
               exact ⟨hmc.cell ‹_› (fun h => h), hmc.cell ‹_› (fun h => h)⟩))
          (first
            | (go_at_call 13; refine (slots_n (D := Not2 bb g) n (noughts_length n m) (fun q hq => by unfold Not2; simp at hq; omega) HBd.out).mono ?_; rintro e wt4 ⟨at4, ct4, rfl, hmc, hxt4⟩
               have hk4 := hmc)
            | (go_at_call 12; refine (sameList_eq at4 a5 ct4 c5 n _ (noughts_length n m) hxt4 (by exact Mixes.frame (by exact HXt.out) hk4)).mono ?_; rintro e wt5 ⟨rfl, hmc⟩
               have hk5 := hk4.trans hmc)
            | (go_at_call 15; refine (total_gen (D := Not2 bb g) (fun q hq => by unfold Not2; have := hk5.size; simp at this; omega) (HBd.out.kept hk5)).mono ?_; rintro e wt6 ⟨at6, rfl, hmc, hxt6⟩
               have hk6 := hk5.trans hmc)
            | (go_at_call 16; refine (refTotal_any _ m n (noughts n m) a5 c5 _ (by exact Mixes.frame (by exact HXt.out) hk6) hm2 (noughts_length n m) hn Hrvt.out).mono ?_; rintro e wt7 ⟨at7, rfl, hmc, hxt7⟩
               have hk7 := hk6.trans hmc
               have hxt67 := hxt6.frame hmc)
            | (go_at_call 14; refine (same_eq at6 at7 m m m _ (totalL_length m _) hxt67 hxt7).mono ?_; rintro e wt8 ⟨rfl, hmc⟩
               have hk8 := hk7.trans hmc))
        have hk9 : Mod NoBlock w7 _ := hk8.undrew
        have Hm9 := Lib.hid (Hmt.out.trans hk9.only)
        have HB9 := Lib.hid (HBt.out.kept hk9)
        have HX9 := Lib.hid (HXt.out.frame hk9)
        have Hbox9 := Lib.hid (Hboxt.out.of_block (hk9.block g Hboxt.out.lt (fun h => h)))
        clear hk9
        go_wp2
        exact ⟨⟨k + 1, noughts n m, a5, c5, by omega, by go_num, Hm9.out, (noughts_length n m), hc5, HB9.out, HX9.out, Hbox9.out⟩, by simp [intOf]; omega⟩
    · have Hmod := Lib.hid (Hm3.out.step hmod (fun i hi e => by omega))
      clear hmod hls hb1 hx1 hbox
      go_wp2_with fail
      refine (awake_any _).mono ?_
      rintro e w9 ⟨rfl, hm9⟩
      have Hm9 := Lib.hid (Hmod.out.trans hm9)
      clear hm9
      go_wp2
      go_ret
      exact ⟨rfl, Hm9.out⟩

set_option maxRecDepth 100000 in
set_option maxHeartbeats 400000 in
theorem beltPlays_bad (n m : Int) (a : Option Addr) (c : Nat) (l : List (Bool × List Int)) (w : World) (hx : OpsAt w a l) (h : n < 1 ∨ 16 < n ∨ m < 1 ∨ 16 < m) :
    Calls Try.prog 4 #[.int .i64 n, .int .i64 m, .slice a l.length c] w fun e w' => e = .returned (.bool true) ∧ Mod NoBlock w w' := by
  have Hx := Lib.hid hx
  have h' := Lib.hid h
  clear hx h
  go_enter Try.func4, Try.ntmps4
  go_wp2_with fail
  refine (light_any a c l w Hx.out).mono ?_
  rintro e w0 ⟨v, rfl, rfl, hv⟩
  clear hv
  cases v
  · go_wp2_with fail
    refine (awake_any _).mono ?_
    rintro e w9 ⟨rfl, hm9⟩
    have Hm9 := Lib.hid hm9
    clear hm9
    go_wp2
    go_ret
    exact ⟨rfl, Hm9.out⟩
  · go_wp2_with fail
    refine (beltNew_bad n m _ h'.out).mono ?_
    rintro e w1 ⟨rfl, rfl⟩
    go_wp2_with fail
    refine (refNew_bad n m _ h'.out).mono ?_
    rintro e w2 ⟨rfl, hm2⟩
    have Hm2 := Lib.hid (hm2.alloc (.cells #[.int .i64 0, .slice Option.none 0 0] 28))
    clear hm2
    go_wp2_with fail
    refine (awake_any _).mono ?_
    rintro e w9 ⟨rfl, hm9⟩
    have Hm9 := Lib.hid (Hm2.out.trans hm9)
    clear hm9
    go_wp2
    go_ret
    exact ⟨rfl, Hm9.out⟩

theorem beltPlays_fin {w : World} (n : Int) (_ : I64 n) (m : Int) (_ : I64 m) (a : Option Addr) (c : Nat) (l : List (Bool × List Int)) (hx : OpsAt w a l) (_ : World) :
    Calls Try.prog 4 #[.int .i64 n, .int .i64 m, .slice a l.length c] w fun e w' => e = .returned (.bool true) ∧ Mod NoBlock w w' := by
  by_cases h : n < 1 ∨ 16 < n ∨ m < 1 ∨ 16 < m
  · exact beltPlays_bad n m a c l w hx h
  · obtain ⟨n', rfl⟩ : ∃ k : Nat, n = k := ⟨n.toNat, by omega⟩
    obtain ⟨m', rfl⟩ : ∃ k : Nat, m = k := ⟨m.toNat, by omega⟩
    exact beltPlays_ok n' m' a c l w hx (by omega) (by omega) (by omega) (by omega)

end Go.Proofs.Ytinoekldcchfhaa
