/-
  Walk over belt.Step.
-/
import Derived.Test.YtinoekldcchfhaaWd
import Derived.StillTailTactics
import Derived.BigRegion
import Derived.IntWalk
set_option linter.unusedVariables false
set_option linter.unusedSimpArgs false
namespace Go.Proofs.Ytinoekldcchfhaa
open Go.RowKit

theorem mod_two {x n : Nat} (h : x < 2 * n) : x % n = if x < n then x else x - n := by
  split
  · exact Nat.mod_eq_of_lt ‹_›
  · rw [Nat.mod_eq_sub_mod (by omega), Nat.mod_eq_of_lt (by omega)]
theorem turn_succ {k n at_ at' j : Nat} (h0 : at_ < n) (h : (at_ + n - 1) % n = at') (hj : j + 1 < n) : (at' + (j + 1)) % n = (at_ + j) % n := by
  rw [mod_two (by omega)] at h
  have : at' < n := by split at h <;> omega
  rw [mod_two (by omega), mod_two (by omega)]
  split at h <;> split <;> split <;> omega
theorem turn_ne {n at_ at' j : Nat} (h0 : at_ < n) (h : (at_ + n - 1) % n = at') (hj : j + 1 < n) : (at_ + j) % n ≠ at' := by
  rw [mod_two (by omega)] at h
  rw [mod_two (by omega)]
  split at h <;> split <;> omega
theorem rx_cons_zero (xs : List Int) (l : List (List Int)) : rx (xs :: l) 0 = xs := rfl
theorem rx_cons_succ (xs : List Int) (l : List (List Int)) (j : Nat) : rx (xs :: l) (j + 1) = rx l j := by simp [rx]
theorem rx_dropLast {l : List (List Int)} {j : Nat} (h : j + 1 < l.length) : rx l.dropLast j = rx l j := by
  have h1 : j < l.dropLast.length := by simp; omega
  rw [rx_eq h1, rx_eq (by omega), List.getElem_dropLast]

set_option maxHeartbeats 800000 in
theorem step_ok (D E : Nat → Prop) (bb m : Nat) (sl : List (List Int)) (a : Option Addr) (c : Nat) (xs : List Int) (w : World) (hb : BeltAt D w bb m sl) (hx : Ints E w a xs) (hE : ∀ b, E b → b ≠ bb) (hv : validL xs m = true) :
    Calls Try.prog 21 #[.pointer (some ⟨bb, 0, Option.none⟩), .slice a xs.length c] w fun e w' => ∃ a' c', e = .returned (.tuple #[.slice a' m c', .int .i64 0]) ∧
      Mod (fun b => b = bb) w w' ∧ Ints D w' a' (rx sl (sl.length - 1)) ∧ BeltAt (fun b => D b ∨ w.heap.size ≤ b) w' bb m (xs :: sl.dropLast) := by
  obtain ⟨f, at_, h0, hr, h16, h17, h18, hs⟩ := hb.ring
  have hn1 := hb.one
  have hn2 := hb.len
  have hbb := hr.lt
  generalize hn : sl.length = n at *
  obtain ⟨at', hat'⟩ : ∃ k : Nat, (at_ + n - 1) % n = k := ⟨_, rfl⟩
  have hatn : at' < n := by rw [← hat']; exact Nat.mod_lt _ (by omega)
  have e1 : IntKind.i64.wrap ((at_ : Int) + n) = (at_ : Int) + n := IntWalk.i64_in _ (by omega)
  have e2 : IntKind.i64.wrap ((at_ : Int) + n - 1) = (at_ : Int) + n - 1 := IntWalk.i64_in _ (by omega)
  have e3 : ((at_ : Int) + n - 1).tmod n = at' := by
    rw [Int.tmod_eq_emod_of_nonneg (by omega), ← hat']
    have : ((at_ : Int) + n - 1) = ((at_ + n - 1 : Nat) : Int) := by omega
    rw [this]; simp
  have c16 : w.cell? ⟨bb, 16, Option.none⟩ = some (.int .i64 n) := by rw [hr.cell (by omega), h16]
  have c17 : w.cell? ⟨bb, 17, Option.none⟩ = some (.int .i64 m) := by rw [hr.cell (by omega), h17]
  have c18 : w.cell? ⟨bb, 18, Option.none⟩ = some (.int .i64 at_) := by rw [hr.cell (by omega), h18]
  have Hb := Lib.hid hb
  have Hx := Lib.hid hx
  have Hr := Lib.hid hr
  have H16 := Lib.hid h16
  have H17 := Lib.hid h17
  have H18 := Lib.hid h18
  have Hs := Lib.hid hs
  have Hn := Lib.hid hn
  have Hat := Lib.hid hat'
  have E1 := Lib.hid e1
  have E2 := Lib.hid e2
  have E3 := Lib.hid e3
  clear hb hx hr h16 h17 h18 hs hn hat' e1 e2 e3
  go_enter Try.func21, Try.ntmps21
  go_wp2_with (go_at_call 28; refine (valid_any _ _ _ _ _ _ Hx.out).mono ?_; rintro e w1 ⟨rfl, hm1⟩; rw [hv])
  have d16 := hm1.cell c16 (fun h => h)
  have d17 := hm1.cell c17 (fun h => h)
  have d18 := hm1.cell c18 (fun h => h)
  have hbb1 := hm1.size_lt hbb
  clear c16 c17 c18
  go_wp2_with (go_at_call 27; refine (slots_any _ _ _ hn2 d16).mono ?_; rintro e w2 ⟨rfl, nd, rfl⟩)
  have f18 : w1.frozen? ⟨bb, 18, Option.none⟩ = false := by
    have := (Hr.out.of_block (hm1.block bb hbb id)).frozen 18
    exact this
  have e1 := E1.out
  have e2 := E2.out
  have e3 := E3.out
  go_wp2
  go_region
  clear e1 e2 e3
  have hrow1 : ((w1.drewN (nd + 1)).setCell ⟨bb, 18, Option.none⟩ (.int .i64 at')).rowIs bb 62 19 (fun j => if j = 18 then .int .i64 at' else f j) :=
    World.rowIs.set (w := w1.drewN (nd + 1)) (Hr.out.of_block (hm1.block bb hbb id)) 18 _
  have hmod1 : Mod (fun b => b = bb) w ((w1.drewN (nd + 1)).setCell ⟨bb, 18, Option.none⟩ (.int .i64 at')) :=
    (hm1.only.drewN _).set1 18 _
  generalize (w1.drewN (nd + 1)).setCell ⟨bb, 18, Option.none⟩ (.int .i64 at') = W at hrow1 hmod1 ⊢
  clear d16 d17 d18 f18 hbb1 hm1
  have g18 : W.cell? ⟨bb, 18, Option.none⟩ = some (.int .i64 at') := hrow1.cell (by omega)
  obtain ⟨a2, c2, hf2, hx2⟩ := Hs.out (n - 1) (by omega)
  have hidx : (at_ + (n - 1)) % n = at' := by rw [← Hat.out]; congr 1; omega
  rw [hidx] at hf2
  have hrl : (rx sl (n - 1)).length = m := Hb.out.rowLen (by have := Hn.out; omega)
  rw [hrl] at hf2
  have gat : W.cell? ⟨bb, at', Option.none⟩ = some (.slice a2 m c2) := by rw [hrow1.cell (by omega), if_neg (by omega), hf2]
  have fat : W.frozen? ⟨bb, at', Option.none⟩ = false := hrow1.frozen at'
  have fa : ∀ o, (W.alloc o).frozen? ⟨bb, at', Option.none⟩ = false := fun o => (hrow1.alloc o).frozen at'
  have ca : ∀ o, (W.alloc o).cell? ⟨bb, at', Option.none⟩ = some (.slice a2 m c2) := fun o => by rw [(hrow1.alloc o).cell (by omega), if_neg (by omega), hf2]
  have b0 : (0 : Int) ≤ (at' : Int) := by omega
  have b1 : (at' : Int) < (n : Int) := by omega
  have Hidx := Lib.hid hidx
  have Hrl := Lib.hid hrl
  have Hf2 := Lib.hid hf2
  have Hx2 := Lib.hid hx2
  have Hrow1 := Lib.hid hrow1
  have Hmod1 := Lib.hid hmod1
  have hbbW := hrow1.lt
  clear hidx hrl hf2 hx2 hrow1 hmod1
  go_wp2
  have hsrc : Src W a (xs.map (Value.int .i64)) := Src.ints (Hx.out.mod Hmod1.out fun b _ h => hE b h)
  have Hsrc := Lib.hid hsrc
  clear hsrc
  have hlx : xs.length ≤ 1000 := by
    have := hv; simp [validL] at this; have := ok_of_fault this.2; omega
  go_region_held3 (fun w' => w'.cell? ⟨bb, 18, Option.none⟩ = some (.int .i64 at'))
    (first
      | go_keep
      | (rw [hgrow.cell_far _ (by simp; omega) (by simp [blockOf]; omega)]; assumption)
      | (rw [World.cell?_setCell_other _ _ _ _ (by simp <;> omega)]; assumption))
    ((refine step_append1 (vs := []) (by rfl) (.tmp 49) (.tmp 50) _ (by rfl) elemMix 0 xs.length xs.length c (xs.map (Value.int .i64)) (by rfl) (by rfl) (by rfl) (by simp) (by omega) (Own.fresh W W.heap.size _ (Nat.le_refl _) #[] (by simp)).drew ((Hsrc.out).alloc _) (by simp [Value.oneCell']) (by simp only [maxLen]; omega) (by omega) (by simp) ?_
      intro a3 c3 w3 hown hgrow hat3
      have st1 : w3.cell? ⟨bb, at', Option.none⟩ = some (.slice a2 m c2) := by rw [hgrow.cell_far _ (by simp; omega) (by simp [blockOf]; omega)]; exact ca _
      have st2 : w3.frozen? ⟨bb, at', Option.none⟩ = false := by rw [hgrow.frozen_far _ (by simp; omega) (by simp [blockOf]; omega)]; exact fa _))
  have hm3 : Mod (fun b => b = bb) w (w3.setCell ⟨bb, at', Option.none⟩ (.slice a3 xs.length c3)) := by
    refine Mod.set1 ?_ _ _
    refine (((Hmod1.out.alloc _).drew).grown hgrow fun k hk => .inr ?_)
    have e : k = W.heap.size := by simpa [blockOf] using hk.symm
    have := Hmod1.out.size
    omega
  have hrow3 : (w3.setCell ⟨bb, at', Option.none⟩ (.slice a3 xs.length c3)).rowIs bb 62 19 (fun j => if j = at' then .slice a3 xs.length c3 else if j = 18 then .int .i64 at' else f j) := by
    have hb3 : w3.heap[bb]? = W.heap[bb]? := (hgrow.block bb (by simp; omega) (by simp [blockOf]; omega)).trans (Below.heap_alloc W _ bb hbbW)
    exact World.rowIs.set (Hrow1.out.of_block hb3) at' _
  have hints3 : Ints (fun b => W.heap.size ≤ b) (w3.setCell ⟨bb, at', Option.none⟩ (.slice a3 xs.length c3)) a3 xs := by
    refine (Own.ints (by simpa using hown) (D := fun b => W.heap.size ≤ b) (fun b hb _ => hb) (by simp [maxLen]; omega)).mod ((Mod.refl (fun b => b = bb) w3).set1 _ _) fun b _ hb e => ?_
    omega
  generalize w3.setCell ⟨bb, at', Option.none⟩ (.slice a3 xs.length c3) = w4 at hm3 hrow3 hints3 ⊢
  clear st1 st2 hown hgrow hat3 fa ca
  go_wp2
  go_ret2
  have hsz := Hmod1.out.size
  refine ⟨a2, c2, rfl, hm3, Hx2.out.mod hm3 (fun b _ hb e => Hb.out.away (e ▸ hb)), ?_⟩
  have hnl := Hn.out
  have hxl : xs.length = m := by have := hv; simp [validL] at this; omega
  have hlen : (xs :: sl.dropLast).length = n := by simp; omega
  refine ⟨by omega, by omega, Hb.out.mats, Hb.out.mats16, fun i hi => ?_, ?_, _, at', by omega, hrow3, ?_, ?_, ?_, fun i hi => ?_⟩
  · rcases i with _ | j
    · rw [rx_cons_zero, hv]
    · rw [rx_cons_succ, rx_dropLast (by omega)]; exact Hb.out.rows j (by omega)
  · intro h; rcases h with h | h
    · exact Hb.out.away h
    · omega
  · rw [if_neg (by omega), if_neg (by omega), H16.out, hlen]
  · rw [if_neg (by omega), if_neg (by omega), H17.out]
  · rw [if_neg (by omega), if_pos rfl]
  · rw [hlen]
    rcases i with _ | j
    · rw [Nat.add_zero, Nat.mod_eq_of_lt hatn, rx_cons_zero]
      exact ⟨a3, c3, if_pos rfl, hints3.mono fun b _ hb => .inr (by omega)⟩
    · have hj : j + 1 < n := by omega
      rw [turn_succ (k := 0) h0 Hat.out hj, rx_cons_succ, rx_dropLast (by omega)]
      obtain ⟨a5, c5, e5, h5⟩ := Hs.out j (by omega)
      have hlt5 : (at_ + j) % n < n := Nat.mod_lt _ (by omega)
      refine ⟨a5, c5, by rw [if_neg (turn_ne h0 Hat.out hj), if_neg (by omega), e5], (h5.mod hm3 (fun b _ hb e => Hb.out.away (e ▸ hb))).mono fun b _ hb => .inl hb⟩

set_option maxHeartbeats 400000 in
theorem step_bad (D E : Nat → Prop) (bb m : Nat) (sl : List (List Int)) (a : Option Addr) (c : Nat) (xs : List Int) (w : World) (hb : BeltAt D w bb m sl) (hx : Ints E w a xs) (hv : validL xs m = false) :
    Calls Try.prog 21 #[.pointer (some ⟨bb, 0, Option.none⟩), .slice a xs.length c] w fun e w' => e = .returned (.tuple #[.slice Option.none 0 0, .int .i64 18]) ∧ Mod NoBlock w w' := by
  obtain ⟨f, at_, h0, hr, h16, h17, h18, hs⟩ := hb.ring
  have c17 : w.cell? ⟨bb, 17, Option.none⟩ = some (.int .i64 m) := by rw [hr.cell (by omega), h17]
  have Hx := Lib.hid hx
  clear hx hr h16 h17 h18 hs hb
  go_enter Try.func21, Try.ntmps21
  go_wp2_with (go_at_call 28; refine (valid_any _ _ _ _ _ _ Hx.out).mono ?_; rintro e w1 ⟨rfl, hm1⟩; rw [hv])
  go_ret2
  exact ⟨rfl, hm1⟩

set_option maxHeartbeats 400000 in
theorem step_nil (v : Value) (w : World) :
    Calls Try.prog 21 #[.pointer Option.none, v] w fun e w' => e = .returned (.tuple #[.slice Option.none 0 0, .int .i64 14]) ∧ w = w' := by
  go_enter Try.func21, Try.ntmps21
  go_wp2
  go_ret2
  exact ⟨rfl, rfl⟩

end Go.Proofs.Ytinoekldcchfhaa
