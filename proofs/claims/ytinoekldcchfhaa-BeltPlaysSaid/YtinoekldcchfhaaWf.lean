/-
  Walks over belt.Slots, Total, Clear.
-/
import Derived.Test.YtinoekldcchfhaaWe
set_option linter.unusedVariables false
set_option linter.unusedSimpArgs false
namespace Go.Proofs.Ytinoekldcchfhaa
open Go.RowKit

set_option maxHeartbeats 1600000 in
theorem slotsList_any (D : Nat → Prop) (bb m : Nat) (sl : List (List Int)) (w : World) (hb : BeltAt D w bb m sl) :
    Calls Try.prog 13 #[.pointer (some ⟨bb, 0, Option.none⟩)] w fun e w' => ∃ a' c', e = .returned (.slice a' sl.length c') ∧
      Mod NoBlock w w' ∧ Mixes (fun b => w.heap.size ≤ b) w' a' sl := by
  obtain ⟨f, at_, h0, hr, h16, h17, h18, hs⟩ := hb.ring
  have hn1 := hb.one
  have hn2 := hb.len
  have hm16 := hb.mats16
  have hbb := hr.lt
  generalize hn : sl.length = n at *
  have c16 : w.cell? ⟨bb, 16, Option.none⟩ = some (.int .i64 n) := by rw [hr.cell (by omega), h16]
  have Hb := Lib.hid hb
  have Hr := Lib.hid hr
  have H16 := Lib.hid h16
  have H18 := Lib.hid h18
  have Hs := Lib.hid hs
  have Hn := Lib.hid hn
  clear hb hr h16 h17 h18 hs hn
  go_enter Try.func13, Try.ntmps13
  go_wp2_with (go_at_call 27; refine (slots_any _ _ _ hn2 c16).mono ?_; rintro e w2 ⟨rfl, nd, rfl⟩)
  go_loopw [3, 12] (fun o i wr => ∃ (k : Nat) (ao : Option Addr) (co : Nat), k ≤ n ∧ i = .int .i64 k ∧ o = .slice ao k co ∧ Mod NoBlock w wr ∧ OwnRows wr w.heap.size 35 ao co (sl.take k)) (fun _ i _ => n - (intOf i).toNat)
  case atStart => exact ⟨0, Option.none, 0, by omega, rfl, rfl, (Mod.refl _ _).drewN _, OwnRows.nil _ _ _⟩
  case round =>
    obtain ⟨k, ao, co, hk, rfl, rfl, hmod, hrows⟩ := hrel
    by_cases hkn : k < n
    · obtain ⟨vs, hown, hvals⟩ := hrows
      have hrow : wr.rowIs bb 62 19 f := Hr.out.of_block (hmod.block bb hbb id)
      have d16 : wr.cell? ⟨bb, 16, Option.none⟩ = some (.int .i64 n) := by rw [hrow.cell (by omega), H16.out]
      have d18 : wr.cell? ⟨bb, 18, Option.none⟩ = some (.int .i64 at_) := by rw [hrow.cell (by omega), H18.out]
      obtain ⟨j, hj⟩ : ∃ j : Nat, (at_ + k) % n = j := ⟨_, rfl⟩
      have hjn : j < n := by rw [← hj]; exact Nat.mod_lt _ (by omega)
      obtain ⟨a2, c2, hf2, hx2⟩ := Hs.out k hkn
      rw [hj] at hf2
      have hrl : (rx sl k).length = m := Hb.out.rowLen (by have := Hn.out; omega)
      rw [hrl] at hf2
      have dj : wr.cell? ⟨bb, j, Option.none⟩ = some (.slice a2 m c2) := by rw [hrow.cell (by omega), hf2]
      have e1 : IntKind.i64.wrap ((at_ : Int) + k) = (at_ : Int) + k := IntWalk.i64_in _ (by omega)
      have e3 : ((at_ : Int) + k).tmod n = j := by
        rw [Int.tmod_eq_emod_of_nonneg (by omega), ← hj]; simp
      have e4 : ((at_ : Int) + k) % n = j := by rw [← hj]; simp
      have hz : ¬ n = 0 := by omega
      have hne : some bb ≠ blockOf ao := fun e => by have := hown.lt e.symm; omega
      have hnao : ∀ b, blockOf ao = some b → b < wr.heap.size := fun b e => (hown.lt e).2
      have b0 : (0 : Int) ≤ (j : Int) := by omega
      have b1 : (j : Int) < (n : Int) := by omega
      have hsrc : Src wr a2 ((rx sl k).map (Value.int .i64)) := Src.ints (hx2.frame hmod)
      have hbbr := hrow.lt
      have hvl : vs.length = k := by rw [hvals.1]; simp; have := Hn.out; omega
      have Hrow := Lib.hid hrow
      have Hj := Lib.hid hj
      have Hrl := Lib.hid hrl
      have Hsrc := Lib.hid hsrc
      have Hown := Lib.hid hown
      have Hvals := Lib.hid hvals
      have Hmod := Lib.hid hmod
      have Hvl := Lib.hid hvl
      clear hrow hj hf2 hx2 hrl hsrc hown hvals hmod hvl c16
      go_wp2
      go_region_held3 (fun w' => w'.cell? ⟨bb, 16, Option.none⟩ = some (.int .i64 n) ∧ w'.cell? ⟨bb, 18, Option.none⟩ = some (.int .i64 at_) ∧ w'.cell? ⟨bb, j, Option.none⟩ = some (.slice a2 m c2))
        (first
          | go_keep
          | (go_split_ands
             refine ⟨?_, ?_, ?_⟩
             · (rw [hgrow.cell_far _ (by simp; omega) (by simp [blockOf]; omega)]; assumption)
             · (rw [hgrow.cell_far _ (by simp; omega) (by simp [blockOf]; omega)]; assumption)
             · (rw [hgrow.cell_far _ (by simp; omega) (by simp [blockOf]; omega)]; assumption))
          | (go_split_ands
             refine ⟨?_, ?_, ?_⟩
             · (rw [hgrow4.cell_far _ (by simp; omega) hne]; assumption)
             · (rw [hgrow4.cell_far _ (by simp; omega) hne]; assumption)
             · (rw [hgrow4.cell_far _ (by simp; omega) hne]; assumption)))
        (first
          | (refine step_append1 (vs := []) (by rfl) (.tmp 16) (.tmp 30) _ (by rfl) elemMix 0 m m c2 ((rx sl k).map (Value.int .i64)) (by rfl) (by rfl) (by rfl) (by simp [Hrl.out]) (by omega) (Own.fresh wr wr.heap.size _ (Nat.le_refl _) #[] (by simp)).drew ((Hsrc.out).alloc _) (by simp [Value.oneCell']) (by simp only [maxLen]; omega) (by omega) (by simp) ?_
             intro a3 c3 w3 hown3 hgrow hat3
             have hm3 : Mod NoBlock wr w3 := (((Mod.refl NoBlock wr).alloc _).drew).grown hgrow (fun b hb => .inr (Nat.le_of_eq (Option.some.inj hb)))
             have hbb3 : bb < w3.heap.size := hm3.size_lt hbbr
             have hsz3 : w.heap.size ≤ w3.heap.size := Nat.le_trans Hmod.out.size hm3.size)
          | (refine step_append1 (vs := vs) (by rfl) (.tmp 15) (.tmp 32) _ (by rfl) elemMixes k 1 (k + 1) 1 [.slice a3 m c3] (by rfl) (by rfl) Hvl.out.symm (by simp) (by omega) ((Hown.out.mod hm3 (fun _ _ => id)).alloc _) (Src.one _ _ _) (by simp [Value.oneCell']) (by simp only [maxLen]; omega) (by omega) (by simp; omega) ?_
             intro a4 c4 w4 hown4 hgrow4 hat4))
      have ho3 : Own w3 wr.heap.size 3 a3 c3 ((rx sl k).map (Value.int .i64)) := hown3
      have hx3 : Ints (fun b => w.heap.size ≤ b ∧ some b ≠ blockOf ao) w3 a3 (rx sl k) :=
        (ho3.ints (D := fun b => wr.heap.size ≤ b) (fun b hb _ => hb) (by rw [Hrl.out]; simp [maxLen]; omega)).mono fun b _ hb => ⟨Nat.le_trans Hmod.out.size hb, fun e => by have := hnao b e.symm; omega⟩
      have hrows4 : OwnRows w4 w.heap.size 35 a4 c4 (sl.take k ++ [rx sl k]) :=
        OwnRows.snoc (xs := rx sl k) (Hvals.out.mod hm3 fun _ _ _ => id) hx3 ((Mod.refl NoBlock w3).alloc _) (by rw [Hrl.out]; exact hown4) hgrow4 hat4
      rw [← take_rx (by have := Hn.out; omega)] at hrows4
      have hmod4 : Mod NoBlock w w4 := ((Hmod.out.trans hm3).alloc _).grown hgrow4 fun b hb => .inr (Hown.out.lt hb).1
      have Hrows4 := Lib.hid hrows4
      have Hmod4 := Lib.hid hmod4
      clear hown3 hgrow hat3 hown4 hgrow4 hat4 hx3 hrows4 hmod4 hm3 e1 e3 e4 hz
      go_wp2
      exact ⟨⟨k + 1, a4, c4, by omega, by go_num, rfl, Hmod4.out, Hrows4.out⟩, by simp [intOf]; omega⟩
    · go_wp2
      obtain rfl : k = n := by omega
      go_ret
      have hnn := Hn.out
      refine ⟨ao, co, rfl, hmod, ?_⟩
      rw [List.take_of_length_le (by omega)] at hrows
      exact hrows.mixes (fun b hb _ => hb) (by rw [hnn]; simp [maxLen]; omega)

set_option maxHeartbeats 400000 in
theorem slotsList_nil (w : World) :
    Calls Try.prog 13 #[.pointer Option.none] w fun e w' => e = .returned (.slice Option.none 0 0) ∧ w = w' := by
  go_enter Try.func13, Try.ntmps13
  go_wp2
  go_ret
  exact ⟨rfl, rfl⟩

/-- The sum of column k. -/
def colSum (l : List (List Int)) (k : Nat) : Int := (l.map fun r => ix r k).sum
theorem colSum_nil (k : Nat) : colSum [] k = 0 := rfl
theorem colSum_append (l m : List (List Int)) (k : Nat) : colSum (l ++ m) k = colSum l k + colSum m k := by simp [colSum]
theorem colSum_take_succ {l : List (List Int)} {j : Nat} (h : j < l.length) (k : Nat) : colSum (l.take (j + 1)) k = colSum (l.take j) k + ix (rx l j) k := by
  rw [take_rx h, colSum_append]; simp [colSum]
theorem ix_bound {r : List Int} {m : Nat} (h : validL r m = true) (k : Nat) : 0 ≤ ix r k ∧ ix r k ≤ 1073741824 := by
  have h2 : faultL r = 0 := by simp [validL] at h; exact h.2
  by_cases hk : k < r.length
  · exact (ok_of_fault h2).2 k hk
  · have : ix r k = 0 := by simp [ix, List.getElem?_eq_none (show r.length ≤ k by omega)]
    omega
theorem colSum_bound {l : List (List Int)} {m : Nat} (h : ∀ r ∈ l, validL r m = true) (k : Nat) : 0 ≤ colSum l k ∧ colSum l k ≤ l.length * 1073741824 := by
  induction l with
  | nil => simp [colSum]
  | cons r l ih =>
    have h1 := ih fun x hx => h x (List.mem_cons_of_mem _ hx)
    have h2 := ix_bound (h r List.mem_cons_self) k
    have e : colSum (r :: l) k = ix r k + colSum l k := by simp [colSum]
    rw [e, List.length_cons]
    omega
def totalL (m : Nat) (l : List (List Int)) : List Int := (List.range m).map (colSum l)
theorem totalL_length (m : Nat) (l : List (List Int)) : (totalL m l).length = m := by simp [totalL]
theorem ix_totalL {m k : Nat} (l : List (List Int)) (h : k < m) : ix (totalL m l) k = colSum l k := by simp [ix, totalL, h]

/-- The ring from its beginning on. -/
def ringL (sl : List (List Int)) (at_ : Nat) : List (List Int) := sl.drop (sl.length - at_) ++ sl.take (sl.length - at_)
theorem ringL_length (sl : List (List Int)) {at_ : Nat} (h : at_ < sl.length) : (ringL sl at_).length = sl.length := by simp [ringL]
theorem ringL_sum (sl : List (List Int)) (at_ k : Nat) : colSum (ringL sl at_) k = colSum sl k := by
  have e : colSum sl k = colSum (sl.take (sl.length - at_)) k + colSum (sl.drop (sl.length - at_)) k := by rw [← colSum_append, List.take_append_drop]
  rw [e, ringL, colSum_append, Int.add_comm]
theorem ringL_at (sl : List (List Int)) {at_ p : Nat} (h : at_ < sl.length) (hp : p < sl.length) : ∃ i, i < sl.length ∧ (at_ + i) % sl.length = p ∧ rx (ringL sl at_) p = rx sl i := by
  by_cases hlt : p < at_
  · refine ⟨p + (sl.length - at_), by omega, ?_, ?_⟩
    · rw [mod_two (by omega)]; split <;> omega
    · simp only [rx, ringL]
      simp only [List.getD_eq_getElem?_getD]
      rw [List.getElem?_append_left (by simp; omega), List.getElem?_drop, Nat.add_comm]
  · refine ⟨p - at_, by omega, ?_, ?_⟩
    · rw [mod_two (by omega)]; split <;> omega
    · simp only [rx, ringL]
      simp only [List.getD_eq_getElem?_getD]
      rw [List.getElem?_append_right (by simp; omega), List.getElem?_take, if_pos (by simp; omega)]
      have e : p - (List.drop (sl.length - at_) sl).length = p - at_ := by rw [List.length_drop]; omega
      rw [e]

set_option maxHeartbeats 1600000 in
theorem beltTotal_any (D : Nat → Prop) (bb m : Nat) (sl : List (List Int)) (w : World) (hb : BeltAt D w bb m sl) :
    Calls Try.prog 15 #[.pointer (some ⟨bb, 0, Option.none⟩)] w fun e w' => ∃ a', e = .returned (.slice a' m m) ∧
      Mod NoBlock w w' ∧ Ints (fun b => w.heap.size ≤ b) w' a' (totalL m sl) := by
  obtain ⟨f, at_, h0, hr, h16, h17, h18, hs⟩ := hb.ring
  have hn1 := hb.one
  have hn2 := hb.len
  have hm16 := hb.mats16
  have hbb := hr.lt
  have hmk := run_make_row' (P := Try.prog) 35 3 (.int .i64 0) 8 Try.underlying35 infoInt rfl .i64 .i64 m (by omega) (by omega)
  have hpl := ringL_length sl h0
  have hps : ∀ k, colSum (ringL sl at_) k = colSum sl k := ringL_sum sl at_
  have hrow : ∀ p, p < sl.length → ∃ a c, f p = .slice a m c ∧ Ints D w a (rx (ringL sl at_) p) ∧ validL (rx (ringL sl at_) p) m = true := by
    intro p hp
    obtain ⟨i, hi, e1, e2⟩ := ringL_at sl h0 hp
    obtain ⟨a, c, h1, h2⟩ := hs i hi
    rw [e1, hb.rowLen hi] at h1
    exact ⟨a, c, h1, e2 ▸ h2, e2 ▸ hb.rows i hi⟩
  generalize hpdef : ringL sl at_ = pl at hpl hps hrow
  generalize hn : sl.length = n at *
  have c16 : w.cell? ⟨bb, 16, Option.none⟩ = some (.int .i64 n) := by rw [hr.cell (by omega), h16]
  have c17 : w.cell? ⟨bb, 17, Option.none⟩ = some (.int .i64 m) := by rw [hr.cell (by omega), h17]
  have hall : ∀ j, j ≤ n → ∀ r ∈ pl.take j, validL r m = true := by
    intro j hj r hr'
    obtain ⟨i, hi, rfl⟩ := List.mem_iff_getElem.1 hr'
    simp at hi
    obtain ⟨a, c, _, _, h⟩ := hrow i (by omega)
    rw [rx_eq (by omega)] at h
    simpa using h
  have Hr := Lib.hid hr
  have Hps := Lib.hid hps
  have Hpl := Lib.hid hpl
  have Hrow := Lib.hid hrow
  have Hall := Lib.hid hall
  clear hb hr h16 h17 h18 hs hn hps hpl hrow hpdef hall
  go_enter Try.func15, Try.ntmps15
  have d16 : ∀ o, (w.alloc o).cell? ⟨bb, 16, Option.none⟩ = some (.int .i64 n) := fun o => by
    rw [World.cell?_alloc_lt _ _ _ (by simpa using hbb)]; exact c16
  go_wp2_with (go_at_call 27; refine (slots_any _ _ _ hn2 (d16 _)).mono ?_; rintro e w2 ⟨rfl, nd, rfl⟩)
  go_loopw [18] (fun i wr => ∃ j : Nat, j ≤ n ∧ i = .int .i64 j ∧ Mod NoBlock w wr ∧ wr.rowIs w.heap.size 3 m (fun k => .int .i64 (colSum (pl.take j) k))) (fun i _ => n - (intOf i).toNat)
  case atStart => exact ⟨0, by omega, rfl, ((Mod.refl _ _).alloc _).drewN _, madeInts w m _⟩
  case round =>
    obtain ⟨j, hj, rfl, hmod, hout⟩ := hrel
    by_cases hjn : j < n
    · obtain ⟨a2, c2, hf, hx, hv⟩ := Hrow.out j hjn
      have dj : wr.cell? ⟨bb, j, Option.none⟩ = some (.slice a2 m c2) := hmod.cell (by rw [Hr.out.cell (by omega), hf]) (fun h => h)
      obtain ⟨lx, b2, o2, ha2, hc2⟩ := hx.open
      have hrl := valid_len hv
      have Hrl := Lib.hid hrl
      have Hv := Lib.hid hv
      have Hmod := Lib.hid hmod
      have Hout := Lib.hid hout
      have Hc2 := Lib.hid hc2
      have Ha2 := Lib.hid ha2
      clear hx hf hv hmod hout hrl lx hc2 ha2
      obtain ⟨wo, rfl⟩ : ∃ wo : World, wo = wr := ⟨_, rfl⟩
      go_wp2
      go_loopw [24] (fun i wr => ∃ k : Nat, k ≤ m ∧ i = .int .i64 k ∧ Mod (fun b => b = w.heap.size) wo wr ∧ wr.rowIs w.heap.size 3 m (fun q => .int .i64 (if q < k then colSum (pl.take (j + 1)) q else colSum (pl.take j) q))) (fun i _ => m - (intOf i).toNat)
      case atStart => exact ⟨0, by omega, rfl, Mod.refl _ _, Hout.out.congr fun i hi => by rw [if_neg (by omega)]⟩
      case round =>
        obtain ⟨k, hk, rfl, hmod2, hout2⟩ := hrel
        by_cases hkm : k < m
        · have hlen : k < (rx pl j).length := by rw [Hrl.out]; exact hkm
          have hw := Hc2.out k hlen
          have hblt := World.block_lt_of_cell? w _ hw
          have r1 : wr.cell? ⟨b2, o2 + k, Option.none⟩ = some (.int .i64 (ix (rx pl j) k)) := hmod2.cell (Hmod.out.cell hw (fun h => h)) (by simp at hblt ⊢; omega)
          have r2 : wr.cell? ⟨w.heap.size, k, Option.none⟩ = some (.int .i64 (colSum (pl.take j) k)) := by rw [hout2.cell hkm, if_neg (by omega)]
          have r3 : wr.frozen? ⟨w.heap.size, k, Option.none⟩ = false := hout2.frozen k
          obtain rfl := Ha2.out (by intro e; rw [e] at hlen; simp at hlen)
          have e5 : colSum (pl.take (j + 1)) k = colSum (pl.take j) k + ix (rx pl j) k := colSum_take_succ (by rw [Hpl.out]; exact hjn) k
          have bb1 := colSum_bound (Hall.out j (by omega)) k
          have bb2 := ix_bound Hv.out k
          have hll : (pl.take j).length ≤ 16 := by rw [List.length_take]; omega
          have E5 := Lib.hid e5
          clear e5 hw hblt hlen
          generalize colSum (pl.take j) k = s at r2 bb1 E5
          generalize hxq : ix (rx pl j) k = x at r1 bb2 E5
          clear hxq
          have s0 : 0 ≤ s := bb1.1
          have s1 : s ≤ 17179869184 := by omega
          have x0 : 0 ≤ x := bb2.1
          have x1 : x ≤ 1073741824 := bb2.2
          clear bb1 bb2 hll
          have Hmod2 := Lib.hid hmod2
          have Hout2 := Lib.hid hout2
          clear hmod2 hout2
          go_wp2
          refine ⟨⟨k + 1, by omega, by go_num, Hmod2.out.set1 _ _, (Hout2.out.set k _).congr fun q hq => ?_⟩, by simp [intOf]; omega⟩
          by_cases hqk : q = k
          · subst hqk
            rw [if_pos rfl, if_pos (by omega), E5.out]
          · rw [if_neg hqk]
            by_cases hlt : q < k
            · rw [if_pos hlt, if_pos (by omega)]
            · rw [if_neg hlt, if_neg (by omega)]
        · obtain rfl : k = m := by omega
          have Hmod2 := Lib.hid hmod2
          have Hout2 := Lib.hid hout2
          clear hmod2 hout2
          go_wp2
          refine ⟨⟨j + 1, by omega, by go_num, Hmod.out.step Hmod2.out (fun i hi e => by omega), Hout2.out.congr fun q hq => by rw [if_pos hq]⟩, by simp [intOf]; omega⟩
    · obtain rfl : j = n := by omega
      have Hmod := Lib.hid hmod
      have Hout := Lib.hid hout
      clear hmod hout
      go_wp2
      go_ret
      refine ⟨_, rfl, Hmod.out, Ints.of_row Hout.out (Nat.le_of_eq (totalL_length _ _)) (by rw [totalL_length]; simp [maxLen]; omega) (fun k hk => ?_) (Nat.le_refl _)⟩
      rw [totalL_length] at hk
      rw [ix_totalL _ hk, List.take_of_length_le (Nat.le_of_eq Hpl.out), Hps.out]

set_option maxHeartbeats 400000 in
theorem beltTotal_nil (w : World) :
    Calls Try.prog 15 #[.pointer Option.none] w fun e w' => e = .returned (.slice Option.none 0 0) ∧ w = w' := by
  go_enter Try.func15, Try.ntmps15
  go_wp2
  go_ret
  exact ⟨rfl, rfl⟩

set_option maxHeartbeats 400000 in
theorem beltClear_nil (w : World) :
    Calls Try.prog 19 #[.pointer Option.none] w fun e w' => e = .returned (.slice Option.none 0 0) ∧ w = w' := by
  go_enter Try.func19, Try.ntmps19
  go_wp2
  go_ret
  exact ⟨rfl, rfl⟩

set_option maxHeartbeats 400000 in
theorem beltClear_any (D : Nat → Prop) (bb m : Nat) (sl : List (List Int)) (w : World) (hb : BeltAt D w bb m sl) :
    Calls Try.prog 19 #[.pointer (some ⟨bb, 0, Option.none⟩)] w fun e w' => ∃ a', e = .returned (.slice a' m m) ∧
      Mod (fun b => b = bb) w w' ∧ Ints (fun b => w.heap.size ≤ b) w' a' (totalL m sl) ∧ BeltAt (fun b => w.heap.size ≤ b) w' bb m (noughts sl.length m) := by
  have Hb := Lib.hid hb
  clear hb
  go_enter Try.func19, Try.ntmps19
  go_wp2_with (go_at_call 15; refine (beltTotal_any _ _ _ _ _ Hb.out).mono ?_; rintro e w1 ⟨a1, rfl, hm1, hx1⟩)
  obtain ⟨f, at_, h0, hr, h16, h17, h18, hs⟩ := (Hb.out.mod hm1 (fun h => h) (fun _ _ _ h => h)).ring
  have hbb := Hb.out.lt
  have hn2 := Hb.out.len
  have hm16 := Hb.out.mats16
  have hsz := hm1.size
  have Hr := Lib.hid hr
  have H16 := Lib.hid h16
  have H17 := Lib.hid h17
  have H18 := Lib.hid h18
  have Hm1 := Lib.hid hm1
  have Hx1 := Lib.hid hx1
  clear hr h16 h17 h18 hs hm1 hx1
  go_wp2_with (go_at_call 25; refine (beltEmpty_any _ _ _ _ _ hn2 hm16 Hr.out H16.out H17.out).mono ?_; rintro e w2 ⟨rfl, hm2, g, hg, hgn, hemp⟩)
  go_ret
  refine ⟨a1, rfl, Hm1.out.only.trans hm2, Hx1.out.mod hm2 (fun b _ hb e => by omega), ?_⟩
  refine BeltAt.of_empties Hb.out.one hn2 Hb.out.mats hm16 h0 hg ((hgn 16 (by omega)).trans H16.out) ((hgn 17 (by omega)).trans H17.out) ((hgn 18 (by omega)).trans H18.out) ?_ (by omega)
  intro j hj
  obtain ⟨a, c, h1, h2⟩ := hemp j hj
  exact ⟨a, c, h1, h2.mono fun b _ hb => by omega⟩

end Go.Proofs.Ytinoekldcchfhaa
