/-
  The law BeltFifo.
-/
import Derived.Test.YtinoekldcchfhaaLe
set_option linter.unusedVariables false
set_option linter.unusedSimpArgs false
namespace Go.Proofs.Ytinoekldcchfhaa
open Go.RowKit

/-- What lies in slot j of a belt of n slots into which ins came. -/
def slotOf (m : Nat) (ins : List (List Int)) (j : Nat) : List Int := if j < ins.length then rx ins (ins.length - 1 - j) else List.replicate m 0
theorem rx_append_left {l t : List (List Int)} {k : Nat} (h : k < l.length) : rx (l ++ t) k = rx l k := by simp [rx, List.getElem?_append_left h]
theorem rx_append_last (l : List (List Int)) (x : List Int) : rx (l ++ [x]) l.length = x := by simp [rx]
theorem slotOf_zero (m : Nat) (ins : List (List Int)) (x : List Int) : slotOf m (ins ++ [x]) 0 = x := by
  unfold slotOf; rw [if_pos (by simp)]
  have : (ins ++ [x]).length - 1 - 0 = ins.length := by simp
  rw [this, rx_append_last]
theorem slotOf_succ (m : Nat) (ins : List (List Int)) (x : List Int) (j : Nat) : slotOf m (ins ++ [x]) (j + 1) = slotOf m ins j := by
  unfold slotOf
  by_cases h : j < ins.length
  · rw [if_pos (by simp; omega), if_pos h]
    have : (ins ++ [x]).length - 1 - (j + 1) = ins.length - 1 - j := by simp; omega
    rw [this, rx_append_left (by omega)]
  · rw [if_neg (by simp; omega), if_neg h]
theorem slotOf_step {m n : Nat} {ins sl : List (List Int)} (x : List Int) (hl : sl.length = n) (h : ∀ j, j < n → rx sl j = slotOf m ins j) : ∀ j, j < n → rx (x :: sl.dropLast) j = slotOf m (ins ++ [x]) j := by
  intro j hj
  cases j with
  | zero => rw [rx_cons_zero, slotOf_zero]
  | succ j => rw [rx_cons_succ, rx_dropLast (by omega), slotOf_succ, h j (by omega)]
theorem colSum_step {sl : List (List Int)} (x : List Int) (k : Nat) (hl : 1 ≤ sl.length) : colSum (x :: sl.dropLast) k = colSum sl k + ix x k - ix (rx sl (sl.length - 1)) k := by
  have e1 : colSum (x :: sl.dropLast) k = ix x k + colSum sl.dropLast k := by simp [colSum]
  have e2 : colSum sl k = colSum sl.dropLast k + ix (rx sl (sl.length - 1)) k := by
    conv => lhs; rw [last_of hl]
    rw [colSum_append]; simp [colSum]
  omega

/-- What the call collected: the rows ins in a slice of its own; they lie in old blocks. -/
def InRows (w : World) (B ba : Nat) (e : Nat) (a : Option Addr) (c : Nat) (ins : List (List Int)) : Prop := ∃ vs, Own w B e a c vs ∧ RowVals (fun b => b < ba) w vs ins

set_option maxRecDepth 100000 in
set_option maxHeartbeats 1600000 in
theorem beltFifo_ok (n m : Nat) (a : Option Addr) (c : Nat) (xss : List (List Int)) (w : World) (hx : Mixes Any w a xss) (hl : xss.length ≤ 60) (hn : 1 ≤ n) (hn2 : n ≤ 16) (hm : 1 ≤ m) (hm2 : m ≤ 16) :
    Calls Try.prog 5 #[.int .i64 n, .int .i64 m, .slice a xss.length c] w fun e w' => e = .returned (.bool true) ∧ Mod NoBlock w w' := by
  obtain ⟨-, b, off, ha, hcell⟩ := hx.open
  have d0 : decide (60 < (xss.length : Int)) = false := by simp; omega
  have d1 : decide ((n : Int) < 1) = false := by simp; omega
  have d2 : decide (16 < (n : Int)) = false := by simp; omega
  have d5 : decide ((m : Int) < 1) = false := by simp; omega
  have d6 : decide (16 < (m : Int)) = false := by simp; omega
  have Hcell := Lib.hid hcell
  have Ha := Lib.hid ha
  clear hcell ha hx
  go_enter Try.func5, Try.ntmps5
  go_wp2_with fail
  refine (beltNew_ok n m _ hn (by omega) hm hm2).mono ?_
  rintro e w1 ⟨rfl, hm1, hb1⟩
  have k1 := hb1.lt
  have hcell2 : ∀ k, k < xss.length → ∃ a' c', w1.cell? ⟨b, off + k, Option.none⟩ = some (.slice a' (rx xss k).length c') ∧ Ints (fun k => k < w.heap.size) w1 a' (rx xss k) ∧ b < w.heap.size := by
    intro k hk
    obtain ⟨a', c', h1, h2⟩ := Hcell.out k hk
    exact ⟨a', c', hm1.cell h1 (fun h => h), (h2.lt.frame hm1).mono fun b _ hb => hb.2, World.block_lt_of_cell? w _ h1⟩
  have Hcell2 := Lib.hid hcell2
  have Hb1 := Lib.hid hb1
  have Hm1 := Lib.hid hm1
  clear hb1 hm1 hcell2 Hcell
  generalize hba : w.heap.size = ba at *
  go_wp2_with fail
  go_loopw [9, 10] (fun o i wr => ∃ (k : Nat) (ins sl : List (List Int)) (ao : Option Addr) (co : Nat), k ≤ xss.length ∧ i = .int .i64 k ∧ o = .slice ao ins.length co ∧ ins.length ≤ k ∧ Mod (fun b => ba ≤ b) w1 wr ∧ sl.length = n ∧
    BeltAt (fun b => b ≠ ba ∧ some b ≠ blockOf ao) wr ba m sl ∧ InRows wr w1.heap.size ba 35 ao co ins ∧ (∀ r ∈ ins, r.length = m) ∧ ∀ j, j < n → rx sl j = slotOf m ins j) (fun _ i _ => xss.length - (intOf i).toNat)
  case atStart =>
    refine ⟨0, [], noughts n m, Option.none, 0, by omega, rfl, rfl, Nat.le_refl _, Mod.refl _ _, noughts_length _ _, Hb1.out.mono (fun k h1 h2 => ⟨by omega, by simp [blockOf]⟩) (fun h => h.1 rfl), ⟨[], Own.nil _ _ _, RowVals.nil _ _⟩, fun r hr => (by cases hr), fun j hj => ?_⟩
    rw [rx_noughts hj]; simp [slotOf]
  case round =>
    obtain ⟨k, ins, sl, ao, co, hk, rfl, rfl, hik, hmod, hls, hb1, hin, hrl, hsl⟩ := hrel
    by_cases hkn : k < xss.length
    · obtain rfl := Ha.out (by intro e; subst e; simp at hkn)
      obtain ⟨a', c', h1, h2, hbl⟩ := Hcell2.out k hkn
      have hc3 : wr.cell? ⟨b, off + k, Option.none⟩ = some (.slice a' (rx xss k).length c') := hmod.cell h1 (by simp; omega)
      have hxw : Ints (fun k => k < ba) wr a' (rx xss k) := h2.mod hmod (fun b _ h => by omega)
      have hsz := hmod.size
      have q1 : (0 : Int) ≤ (k : Int) := by omega
      have q2 : (k : Int) < (xss.length : Int) := by omega
      have Hls := Lib.hid hls
      have Hxw := Lib.hid hxw
      have Hmod := Lib.hid hmod
      have HB := Lib.hid hb1
      have Hin := Lib.hid hin
      have Hrl := Lib.hid hrl
      have Hsl := Lib.hid hsl
      clear hls hxw hmod hb1 h1 h2 hin hrl hsl
      go_wp2_with fail
      refine (rvalid_any _ _ _ _ _ _ Hxw.out).mono ?_
      rintro e wv ⟨rfl, rfl⟩
      by_cases hv : validL (rx xss k) m = true
      · rw [hv]
        have hl := valid_len hv
        rw [hl] at hc3
        go_wp2_with fail
        obtain ⟨vs, hown, hvals⟩ := Hin.out
        have holt : ∀ q, blockOf ao = some q → w1.heap.size ≤ q ∧ q < wr.heap.size := fun q hq => hown.lt hq
        have hvl : vs.length = ins.length := hvals.1
        have Hown := Lib.hid hown
        have Hvals := Lib.hid hvals
        have Hvl := Lib.hid hvl
        have Holt := Lib.hid holt
        clear hown hvals hvl holt Hin
        have hvo : validL (rx sl (sl.length - 1)) m = true := HB.out.rows _ (by have := HB.out.one; omega)
        have Hvo := Lib.hid hvo
        have Hall := Lib.hid (show ∀ r ∈ sl, validL r m = true from fun r hr => by obtain ⟨i, hi, rfl⟩ := List.mem_iff_getElem.1 hr; rw [← rx_eq hi]; exact HB.out.rows i hi)
        have h1s := HB.out.one
        clear hvo
        refine (beltTotal_any _ _ _ _ _ HB.out).mono ?_
        rintro e w2 ⟨ab, rfl, hm2', hxb⟩
        have hs2 := hm2'.size
        have Hxb := Lib.hid hxb
        have HB2 := Lib.hid (HB.out.kept hm2')
        have Hxw2 := Lib.hid (Hxw.out.frame hm2')
        have Hown2 := Lib.hid (Hown.out.mod hm2' (fun _ _ h => h))
        have Hvals2 := Lib.hid (Hvals.out.mod hm2' (fun _ _ _ h => h))
        have Hmod2 := Lib.hid (Hmod.out.trans hm2'.only)
        have hc4 := hm2'.cell hc3 (fun h => h)
        clear hxb hm2' HB Hxw Hown Hvals Hmod hc3
        go_wp2_with fail
        refine (step_n (D := fun b => b ≠ ba ∧ some b ≠ blockOf ao) _ c' _ (rx xss k) hl (fun q hq => ⟨by omega, fun e => by have := Holt.out q e.symm; omega⟩) HB2.out (Hxw2.out.mono fun q _ h => ⟨by omega, fun e => by have := Holt.out q e.symm; omega⟩) hv).mono ?_
        rintro e w3 ⟨ax, cx, rfl, hm3, hxx, hB3⟩
        have hs3 := hm3.size
        have HB3 := Lib.hid hB3
        have Hxx := Lib.hid hxx
        have Hxb3 := Lib.hid (Hxb.out.mod hm3 (fun q _ h e => by omega))
        have Hxw3 := Lib.hid (Hxw2.out.mod hm3 (fun q _ h e => by omega))
        have Hown3 := Lib.hid (Hown2.out.mod hm3 (fun q h e => by have := Holt.out q h; omega))
        have Hvals3 := Lib.hid (Hvals2.out.mod hm3 (fun q _ h e => Nat.ne_of_lt h e))
        have Hmod3 := Lib.hid (Hmod2.out.trans (hm3.mono fun q _ e => by omega))
        have hc5 := hm3.cell hc4 (by simp; omega)
        clear hm3 hxx hB3 HB2 Hxw2 Hown2 Hvals2 Hmod2 hc4 Hxb
        go_wp2_with fail
        refine (beltTotal_any _ _ _ _ _ HB3.out).mono ?_
        rintro e w4 ⟨aa, rfl, hm4, hxa⟩
        have hs4 := hm4.size
        have Hxa := Lib.hid hxa
        have HB4 := Lib.hid (HB3.out.kept hm4).lt'
        have Hxb4 := Lib.hid (Hxb3.out.frame hm4)
        have Hxx4 := Lib.hid (Hxx.out.frame hm4)
        have Hxw4 := Lib.hid (Hxw3.out.frame hm4)
        have Hown4 := Lib.hid (Hown3.out.mod hm4 (fun _ _ h => h))
        have Hvals4 := Lib.hid (Hvals3.out.mod hm4 (fun _ _ _ h => h))
        have Hmod4 := Lib.hid (Hmod3.out.trans hm4.only)
        have hc6 := hm4.cell hc5 (fun h => h)
        clear hm4 hxa HB3 Hxb3 Hxx Hxw3 Hown3 Hvals3 Hmod3 hc5
        have hmm : ((m : Int) == m) = true := by simp
        go_wp2_with (at_builtin; refine wpList_append1 (vs := vs) rfl (.tmp 95) (.tmp 100) _ rfl elemMixes ins.length 1 (ins.length + 1) 1 [.slice a' m c'] rfl rfl Hvl.out.symm rfl rfl (Hown4.out.alloc _) (Src.one _ _ _) (by simp [Value.oneCell']) (by simp only [maxLen]; omega) (by omega) (by simp; omega) ?_; intro a5 c5 w5 hown hg hat)
        have m5 : Mod (fun q => some q = blockOf ao) w4 w5 := ((Mod.refl NoBlock w4).alloc _).only.grown hg (fun q hq => .inl hq.symm)
        have hsn := (Hvals4.out.mod m5 (fun q _ h e => by have := Holt.out q e.symm; omega)).snoc (c' := c') (Hxw4.out.mod m5 (fun q _ h e => by have := Holt.out q e.symm; omega))
        rw [hl] at hsn
        have Hin5 := Lib.hid (show InRows w5 w1.heap.size ba 35 a5 c5 (ins ++ [rx xss k]) from ⟨_, hown, hsn⟩)
        have hown' : Own w5 w1.heap.size 35 a5 c5 (vs ++ [.slice a' m c']) := hown
        have hmx : Mixes Any w5 a5 (ins ++ [rx xss k]) := hown'.mixes (hsn.mono fun _ _ _ => trivial) (fun _ _ _ => trivial) (by simp only [List.length_append, List.length_singleton, maxLen]; omega)
        have HB5 := Lib.hid ((HB4.out.mod m5 (fun e => by have := Holt.out ba e.symm; omega) (fun q _ h e => h.1.2 e)).mono (D' := fun b => b ≠ ba ∧ some b ≠ blockOf a5) (fun q _ h => ⟨h.1.1, fun e => by
          rcases hat with hat | hat
          · exact h.1.2 (e.trans hat)
          · rw [hat] at e; injection e with e; have := h.2; simp at e; omega⟩) (fun h => h.1 rfl))
        obtain ⟨bx, ox, rfl, -, hcx⟩ := (Hxx4.out.mod m5 (fun q _ h e => h.2 e)).2 (by intro e; have := valid_len Hvo.out; rw [e] at this; simp at this; omega)
        obtain ⟨bb, ob, rfl, -, hcb⟩ := (Hxb4.out.mod m5 (fun q _ h e => by have := Holt.out q e.symm; omega)).2 (by intro e; have := totalL_length m sl; rw [e] at this; simp at this; omega)
        obtain ⟨bf, of, rfl, -, hcf⟩ := (Hxa.out.mod m5 (fun q _ h e => by have := Holt.out q e.symm; omega)).2 (by intro e; have := totalL_length m (rx xss k :: sl.dropLast); rw [e] at this; simp at this; omega)
        obtain ⟨bl, ol, rfl, -, hcl⟩ := (Hxw4.out.mod m5 (fun q _ h e => by have := Holt.out q e.symm; omega)).2 (by intro e; rw [e] at hl; simp at hl; omega)
        have hc7 := m5.cell hc6 (fun e => by have := Holt.out _ e.symm; simp at this; omega)
        have Hmod5 := Lib.hid (Hmod4.out.trans (m5.mono fun q _ e => by have := Holt.out q e.symm; omega))
        have Hmx := Lib.hid hmx
        have Hcx := Lib.hid hcx
        have Hcb := Lib.hid hcb
        have Hcf := Lib.hid hcf
        have Hcl := Lib.hid hcl
        have Hsl2 := Lib.hid (slotOf_step (rx xss k) Hls.out Hsl.out)
        have Hlen2 := Lib.hid (show (rx xss k :: sl.dropLast).length = n by rw [List.length_cons, List.length_dropLast, Hls.out]; omega)
        have Hrl2 := Lib.hid (show ∀ r ∈ ins ++ [rx xss k], r.length = m from fun r hr => by
          rcases List.mem_append.1 hr with h | h
          · exact Hrl.out r h
          · rw [List.mem_singleton.1 h]; exact hl)
        clear hown hown' hg hat m5 hsn hmx hcx hcb hcf hcl hc6 HB4 Hxb4 Hxx4 Hxw4 Hxa Hown4 Hvals4 Hmod4
        go_loopw [15] (fun i wr => ∃ q : Nat, q ≤ m ∧ i = .int .i64 q ∧ Mod NoBlock w5 wr) (fun i _ => m - (intOf i).toNat)
        case atStart => exact ⟨0, by omega, rfl, Mod.refl _ _⟩
        case round =>
          obtain ⟨q, hq, rfl, hm6⟩ := hrel
          by_cases hqm : q < m
          · have Hm6 := Lib.hid hm6
            have rx0 := hm6.cell (Hcx.out q (by rw [valid_len Hvo.out]; exact hqm)).1 (fun h => h)
            have rb0 := hm6.cell (Hcb.out q (by rw [totalL_length]; exact hqm)).1 (fun h => h)
            have rf0 := hm6.cell (Hcf.out q (by rw [totalL_length]; exact hqm)).1 (fun h => h)
            have rl0 := hm6.cell (Hcl.out q (by rw [hl]; exact hqm)).1 (fun h => h)
            have rl1 := hm6.cell hc7 (fun h => h)
            rw [ix_totalL _ hqm] at rb0 rf0
            rw [colSum_step _ _ h1s] at rf0
            have B1 := colSum_bound Hall.out q
            have B2 := ix_bound hv q
            have B3 := ix_bound Hvo.out q
            have hlast : ix (rx sl (sl.length - 1)) q = ix (slotOf m ins (n - 1)) q := by rw [Hls.out, Hsl.out (n - 1) (by omega)]
            generalize ix (rx sl (sl.length - 1)) q = v at rx0 rf0 B3 hlast
            generalize colSum sl q = sB at rb0 rf0 B1
            have hls' := Hls.out
            generalize hxl : ix (rx xss k) q = xl at rl0 rf0 B2
            have e1 : IntKind.i64.wrap (sB + xl) = sB + xl := IntWalk.i64_in _ (by omega)
            have e2 : IntKind.i64.wrap (sB + xl - v) = sB + xl - v := IntWalk.i64_in _ (by omega)
            have q3 : (0 : Int) ≤ (q : Int) := by omega
            have q4 : (q : Int) < (m : Int) := by omega
            clear hm6 B1 B2 B3 hxl hls'
            by_cases hgt : n < ins.length + 1
            · have Hlast := Lib.hid hlast
              clear hlast
              obtain ⟨j0, hj0⟩ : ∃ j0 : Nat, ins.length = n + j0 := ⟨ins.length - n, by omega⟩
              have hjl : j0 < ins.length := by omega
              obtain ⟨bi, oi, a6, c6, rfl, -, hi1, hi2⟩ := Hmx.out.row (k := j0) (by simp; omega)
              have hr6 : (rx (ins ++ [rx xss k]) j0).length = m := Hrl2.out _ (by have hjl2 : j0 < (ins ++ [rx xss k]).length := (by rw [List.length_append]; omega); rw [rx_eq hjl2]; exact List.getElem_mem _)
              rw [hr6] at hi1
              obtain ⟨b6, o6, rfl, -, hc6⟩ := hi2.2 (by intro e; rw [e] at hr6; simp at hr6; omega)
              have ri0 := Hm6.out.cell hi1 (fun h => h)
              have ri1 := Hm6.out.cell (hc6 q (by rw [hr6]; exact hqm)).1 (fun h => h)
              rw [rx_append_left hjl] at ri1
              have hvq : ix (rx ins j0) q = v := by
                rw [Hlast.out, slotOf, if_pos (by omega)]
                congr 2; omega
              rw [hvq] at ri1
              have e3 : (ins.length : Int) - n = j0 := by omega
              have e4 : IntKind.i64.wrap (ins.length : Int) = ins.length := IntWalk.i64_in _ (by omega)
              have e5 : IntKind.i64.wrap (j0 : Int) = j0 := IntWalk.i64_in _ (by omega)
              have hgt' : decide ((n : Int) < (ins.length : Int) + 1) = true := decide_eq_true (by omega)
              have q5 : (0 : Int) ≤ (j0 : Int) := by omega
              have q6 : (j0 : Int) < (ins.length : Int) + 1 := by omega
              clear hi1 hi2 hc6 hr6 hvq
              go_wp2
              go_quiet (fail)
              go_wp2
              exact ⟨⟨q + 1, by omega, by go_num, Hm6.out.drewN _⟩, by simp [intOf]; omega⟩
            · have hv0 : v = 0 := by rw [hlast, slotOf, if_neg (by omega), ix_replicate hqm]
              subst hv0
              have hgt' : decide ((n : Int) < (ins.length : Int) + 1) = false := by simp; omega
              clear hlast
              go_wp2
              go_quiet (fail)
              go_wp2
              exact ⟨⟨q + 1, by omega, by go_num, Hm6.out.drewN _⟩, by simp [intOf]; omega⟩
          · have Hm6 := Lib.hid hm6
            clear hm6
            go_wp2
            refine ⟨⟨k + 1, ins ++ [rx xss k], rx xss k :: sl.dropLast, a5, c5, by omega, by go_num, by simp, by simp; omega, Hmod5.out.trans Hm6.out.only, Hlen2.out, HB5.out.kept Hm6.out, ?_, Hrl2.out, Hsl2.out⟩, by simp [intOf]; omega⟩
            obtain ⟨vs', h1, h2⟩ := Hin5.out
            exact ⟨vs', h1.mod Hm6.out (fun _ _ h => h), h2.mod Hm6.out (fun _ _ _ h => h)⟩
      · have hv' : validL (rx xss k) m = false := by simpa using hv
        rw [hv']
        go_wp2
        exact ⟨⟨k + 1, ins, sl, ao, co, by omega, by go_num, rfl, by omega, Hmod.out, Hls.out, HB.out, Hin.out, Hrl.out, Hsl.out⟩, by simp [intOf]; omega⟩
    · have Hmod := Lib.hid (Hm1.out.step hmod (fun i hi e => by omega))
      clear hmod hls hb1 hin hrl hsl
      go_wp2_with fail
      refine (awake_any _).mono ?_
      rintro e w9 ⟨rfl, hm9⟩
      have Hm9 := Lib.hid (Hmod.out.trans hm9)
      clear hm9
      go_wp2
      go_ret
      exact ⟨rfl, Hm9.out⟩

set_option maxRecDepth 100000 in
set_option maxHeartbeats 400000 in
theorem beltFifo_bad (n m : Int) (a : Option Addr) (q c : Nat) (w : World) (h : 60 < q ∨ n < 1 ∨ 16 < n ∨ m < 1 ∨ 16 < m) :
    Calls Try.prog 5 #[.int .i64 n, .int .i64 m, .slice a q c] w fun e w' => e = .returned (.bool true) ∧ Mod NoBlock w w' := by
  by_cases g0 : 60 < q
  rotate_left
  by_cases g1 : n < 1
  rotate_left
  by_cases g2 : 16 < n
  rotate_left
  by_cases g5 : m < 1
  rotate_left
  have g6 : 16 < m := by omega
  all_goals
    clear h
    go_enter Try.func5, Try.ntmps5
    go_wp2_with (go_at_call 17; refine (awake_any _).mono ?_; rintro e w9 ⟨rfl, hmc⟩)
    go_ret
    exact ⟨rfl, hmc⟩

theorem beltFifo_fin {w : World} (n : Int) (_ : I64 n) (m : Int) (_ : I64 m) (a : Option Addr) (c : Nat) (xss : List (List Int)) (hx : Mixes Any w a xss) (_ : xss.length ≤ c) (_ : ∀ k y, y ∈ rx xss k → I64 y) (_ : World) :
    Calls Try.prog 5 #[.int .i64 n, .int .i64 m, .slice a xss.length c] w fun e w' => e = .returned (.bool true) ∧ Mod NoBlock w w' := by
  by_cases h : 60 < xss.length ∨ n < 1 ∨ 16 < n ∨ m < 1 ∨ 16 < m
  · exact beltFifo_bad n m a _ c w h
  · obtain ⟨n', rfl⟩ : ∃ k : Nat, n = k := ⟨n.toNat, by omega⟩
    obtain ⟨m', rfl⟩ : ∃ k : Nat, m = k := ⟨m.toNat, by omega⟩
    exact beltFifo_ok n' m' a c xss w hx (by omega) (by omega) (by omega) (by omega) (by omega)

end Go.Proofs.Ytinoekldcchfhaa
