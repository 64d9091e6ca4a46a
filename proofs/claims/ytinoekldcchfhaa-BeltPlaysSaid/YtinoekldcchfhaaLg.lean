/-
  The law BeltAdds.
-/
import Derived.Test.YtinoekldcchfhaaLf
import Derived.Test.YtinoekldcchfhaaOpp
set_option linter.unusedVariables false
set_option linter.unusedSimpArgs false
namespace Go.Proofs.Ytinoekldcchfhaa
open Go.RowKit

theorem valid_of {l : List Int} {m : Nat} (hl : l.length = m) (hm : m ≤ 16) (h : ∀ k, k < m → 0 ≤ ix l k ∧ ix l k ≤ 1073741824) : validL l m = true := by
  have : l.any badMass = false := by
    rw [List.any_eq_false]
    intro x hx
    obtain ⟨k, hk, rfl⟩ := List.mem_iff_getElem.1 hx
    have := h k (by omega)
    rw [ix_eq hk] at this
    simp [badMass]; omega
  simp only [validL, hl, faultL_ok (l := l) (by omega) this]
  simp
theorem valid_fault {l : List Int} {m : Nat} (h : validL l m = true) : faultL l = 0 ∧ l.length = m := by simp [validL] at h; omega
theorem valid_mk {l : List Int} {m : Nat} (h : faultL l = 0) (hl : l.length = m) : validL l m = true := by simp [validL, h, hl]
/-- A sum is that of two valid mixes, and valid. -/
theorem add_valid {a b : List Int} {m : Nat} (h : (addL a b).2 = 0) (hl : (addL a b).1.length = m) (hm : 1 ≤ m) : addL a b = (sumsL a b, 0) ∧ validL a m = true ∧ validL b m = true ∧ validL (sumsL a b) m = true := by
  have hb : bothL a b = 0 := by
    by_cases hb : bothL a b = 0
    · exact hb
    · simp [addL, hb] at hl; omega
  obtain ⟨f1, f2, he⟩ := both_zero hb
  have ho : (sumsL a b).any over = false := by
    cases ho : (sumsL a b).any over
    · rfl
    · simp [addL, hb, ho] at h
  have e : addL a b = (sumsL a b, 0) := by simp [addL, hb, ho]
  rw [e] at hl
  have hla : a.length = m := by rw [← sumsL_length he]; exact hl
  obtain ⟨l1, g1⟩ := ok_of_fault f1
  obtain ⟨l2, g2⟩ := ok_of_fault f2
  refine ⟨e, valid_mk f1 hla, valid_mk f2 (by omega), valid_of hl (by omega) fun k hk => ?_⟩
  rw [ix_sumsL he (by omega)]
  have h1 := g1 k (by omega)
  have h2 := g2 k (by omega)
  refine ⟨by omega, ?_⟩
  by_cases hgt : 1073741824 < ix a k + ix b k
  · rw [any_over he (by omega) hgt] at ho; cases ho
  · omega
theorem add_of_valid {a b : List Int} {m : Nat} (ha : validL a m = true) (hb : validL b m = true) (hs : validL (sumsL a b) m = true) : addL a b = (sumsL a b, 0) := by
  obtain ⟨f1, l1⟩ := valid_fault ha
  obtain ⟨f2, l2⟩ := valid_fault hb
  obtain ⟨f3, l3⟩ := valid_fault hs
  have hb : bothL a b = 0 := by simp [bothL, f1, f2, l1, l2]
  have ho : (sumsL a b).any over = false := none_over (by omega) fun k hk => by
    have := (ok_of_fault f3).2 k (by omega)
    rw [ix_sumsL (by omega) hk] at this; exact this.2
  simp [addL, hb, ho]
theorem radd_n (a1 a2 : Option Addr) (c1 c2 n m : Nat) (xs ys : List Int) (D1 D2 : Nat → Prop) (w : World) (hn : xs.length = n) (hm : ys.length = m) (hx : Ints D1 w a1 xs) (hy : Ints D2 w a2 ys) :
    Calls Try.prog 24 #[.slice a1 n c1, .slice a2 m c2] w (ListErr (addL xs ys) w) := by
  subst hn; subst hm; exact radd_any a1 a2 c1 c2 xs ys D1 D2 w hx hy
theorem sumsL_zero (m : Nat) : sumsL (List.replicate m 0) (List.replicate m 0) = List.replicate m 0 := by simp [sumsL]

set_option maxRecDepth 100000 in
set_option maxHeartbeats 1600000 in
theorem beltAdds_ok (n m : Nat) (a : Option Addr) (c : Nat) (ls : List (List Int × List Int)) (w : World) (hx : Mix2s w a ls) (hl : ls.length ≤ 60) (hn1 : 1 ≤ n) (hn : n ≤ 16) (hm : 1 ≤ m) (hm2 : m ≤ 16) :
    Calls Try.prog 9 #[.int .i64 n, .int .i64 m, .slice a ls.length c] w fun e w' => e = .returned (.bool true) ∧ Mod NoBlock w w' := by
  have d0 : decide (60 < (ls.length : Int)) = false := by simp; omega
  have d1 : decide ((n : Int) < 1) = false := by simp; omega
  have d3 : decide (16 < (n : Int)) = false := by simp; omega
  have d5 : decide ((m : Int) < 1) = false := by simp; omega
  have d6 : decide (16 < (m : Int)) = false := by simp; omega
  have Hx := Lib.hid hx
  clear hx
  go_enter Try.func9, Try.ntmps9
  go_wp2_with fail
  refine (beltNew_ok n m _ hn1 (by omega) hm hm2).mono ?_
  rintro e w1 ⟨rfl, hm1, hb1⟩
  have k1 := hb1.lt
  have Hb1 := Lib.hid hb1
  have Hm1 := Lib.hid hm1
  clear hb1 hm1
  go_wp2_with fail
  refine (beltNew_ok n m _ hn1 (by omega) hm hm2).mono ?_
  rintro e w2 ⟨rfl, hm2', hb2⟩
  have k2 := hb2.lt
  have Hb12 := Lib.hid (Hb1.out.lt'.kept hm2')
  have Hb2 := Lib.hid hb2
  have Hm2 := Lib.hid (Hm1.out.trans hm2')
  clear hb2 hm2' Hb1 Hm1
  go_wp2_with fail
  refine (beltNew_ok n m _ hn1 hn hm hm2).mono ?_
  rintro e w3 ⟨rfl, hm3', hb3⟩
  have k3 := hb3.lt
  have Hb13 := Lib.hid (Hb12.out.kept hm3')
  have Hb23 := Lib.hid (Hb2.out.lt'.kept hm3')
  have Hb3 := Lib.hid hb3
  have Hm3 := Lib.hid (Hm2.out.trans hm3')
  clear hb3 hm3' Hb12 Hb2 Hm2
  generalize w1.heap.size = bb at *
  generalize w2.heap.size = bc at *
  generalize hba : w.heap.size = ba at *
  have hca : BeltAt (Not3 ba bb bc) w3 ba m (noughts n m) := Hb13.out.mono (fun k h1 h2 => by unfold Not3; omega) (fun h => h.1 rfl)
  have hcb : BeltAt (Not3 ba bb bc) w3 bb m (noughts n m) := Hb23.out.mono (fun k h1 h2 => by unfold Not3; omega) (fun h => h.2.1 rfl)
  have hcc : BeltAt (Not3 ba bb bc) w3 bc m (noughts n m) := Hb3.out.mono (fun k h1 h2 => by unfold Not3; omega) (fun h => h.2.2 rfl)
  have Hca := Lib.hid hca
  have Hcb := Lib.hid hcb
  have Hcc := Lib.hid hcc
  clear hca hcb hcc Hb13 Hb23 Hb3
  go_wp2_with fail
  have hcell2 : ls ≠ [] → ∃ b off, a = some ⟨b, off, Option.none⟩ ∧ b < ba ∧ ∀ k, k < ls.length → ∃ a1 c1 a2 c2, w3.cell? ⟨b, off + k * 2, Option.none⟩ = some (.slice a1 (px ls k).1.length c1) ∧ w3.cell? ⟨b, off + k * 2 + 1, Option.none⟩ = some (.slice a2 (px ls k).2.length c2) ∧
      Ints (fun k => k < ba) w3 a1 (px ls k).1 ∧ Ints (fun k => k < ba) w3 a2 (px ls k).2 := by
    intro hne
    obtain ⟨b, off, ha, hc⟩ := Hx.out hne
    have hpos : 0 < ls.length := by cases ls <;> simp_all
    obtain ⟨_, _, _, _, h0, _⟩ := hc 0 hpos
    refine ⟨b, off, ha, by have := World.block_lt_of_cell? w _ h0; simp at this; omega, fun k hk => ?_⟩
    obtain ⟨a1, c1, a2, c2, h1, h2, h3, h4⟩ := hc k hk
    exact ⟨a1, c1, a2, c2, Hm3.out.cell h1 (fun h => h), Hm3.out.cell h2 (fun h => h), (h3.lt.frame Hm3.out).mono fun b _ hb => by omega, (h4.lt.frame Hm3.out).mono fun b _ hb => by omega⟩
  have Hcell2 := Lib.hid hcell2
  clear hcell2 Hx
  go_loopw [13] (fun i wr => ∃ (k : Nat) (sa sb sc : List (List Int)), k ≤ ls.length ∧ i = .int .i64 k ∧ Mod (fun b => ba ≤ b) w3 wr ∧ sa.length = n ∧ sb.length = n ∧ sc.length = n ∧
    BeltAt (Not3 ba bb bc) wr ba m sa ∧ BeltAt (Not3 ba bb bc) wr bb m sb ∧ BeltAt (Not3 ba bb bc) wr bc m sc ∧ ∀ j, j < n → rx sc j = sumsL (rx sa j) (rx sb j)) (fun i _ => ls.length - (intOf i).toNat)
  case atStart =>
    refine ⟨0, noughts n m, noughts n m, noughts n m, by omega, rfl, Mod.refl _ _, noughts_length _ _, noughts_length _ _, noughts_length _ _, Hca.out, Hcb.out, Hcc.out, fun j hj => ?_⟩
    rw [rx_noughts hj, sumsL_zero]
  case round =>
    obtain ⟨k, sa, sb, sc, hk, rfl, hmod, hla, hlb, hlc, ha1, hb1, hc1, hsum⟩ := hrel
    by_cases hkn : k < ls.length
    · obtain ⟨b, off, rfl, hbl, hcs⟩ := Hcell2.out (by intro e; subst e; simp at hkn)
      obtain ⟨a1, c1, a2, c2, h1, h2, h3, h4⟩ := hcs k hkn
      have r1 : wr.cell? ⟨b, off + k * 2, Option.none⟩ = some (.slice a1 (px ls k).1.length c1) := hmod.cell h1 (by simp; omega)
      have r2 : wr.cell? ⟨b, off + k * 2 + 1, Option.none⟩ = some (.slice a2 (px ls k).2.length c2) := hmod.cell h2 (by simp; omega)
      have hxw : Ints (fun k => k < ba) wr a1 (px ls k).1 := h3.mod hmod (fun b _ h => by omega)
      have hyw : Ints (fun k => k < ba) wr a2 (px ls k).2 := h4.mod hmod (fun b _ h => by omega)
      have hsz := hmod.size
      have q1 : (0 : Int) ≤ (k : Int) := by omega
      have q2 : (k : Int) < (ls.length : Int) := by omega
      have Hla := Lib.hid hla
      have Hlb := Lib.hid hlb
      have Hlc := Lib.hid hlc
      have Hxw := Lib.hid hxw
      have Hyw := Lib.hid hyw
      have Hmod := Lib.hid hmod
      have HA := Lib.hid ha1
      have HB := Lib.hid hb1
      have HC := Lib.hid hc1
      have Hsum := Lib.hid hsum
      clear hla hlb hlc hxw hyw hmod ha1 hb1 hc1 h1 h2 h3 h4 hcs hsum
      go_wp2
      go_region_held3 (fun w' => w'.cell? ⟨b, off + k * 2, Option.none⟩ = some (.slice a1 (px ls k).1.length c1) ∧ w'.cell? ⟨b, off + k * 2 + 1, Option.none⟩ = some (.slice a2 (px ls k).2.length c2))
        (first
          | go_keep
          | (go_split_ands
             exact ⟨hmc.cell ‹_› (fun h => h), hmc.cell ‹_› (fun h => h)⟩))
        (first
          | (go_at_call 24; refine (radd_any _ _ _ _ _ _ (fun k => k < ba) (fun k => k < ba) _ (by exact Hxw.out) (by exact Hyw.out)).mono ?_; rintro e w4 ⟨a4, c4, rfl, hmc, hx4⟩))
      have hmc' := hmc.undrew
      have HA0 := Lib.hid (HA.out.kept hmc')
      have HB0 := Lib.hid (HB.out.kept hmc')
      have HC0 := Lib.hid (HC.out.kept hmc')
      have Hxw0 := Lib.hid (Hxw.out.frame hmc')
      have Hyw0 := Lib.hid (Hyw.out.frame hmc')
      have Hmod0 := Lib.hid (Hmod.out.trans hmc'.only)
      have r3 := hmc'.cell r1 (fun h => h)
      have r4 := hmc'.cell r2 (fun h => h)
      have hs4 := hmc'.size
      have Hx4 := Lib.hid (hx4.mono (D' := fun b => wr.heap.size ≤ b) (fun b _ h => by simpa using h))
      clear hmc hmc' hx4 HA HB HC Hxw Hyw Hmod r1 r2
      by_cases hok : (addL (px ls k).1 (px ls k).2).2 = 0 ∧ (addL (px ls k).1 (px ls k).2).1.length = m
      · obtain ⟨eadd, vx, vy, vs⟩ := add_valid hok.1 hok.2 hm
        have Hx5 := Hx4.out
        rw [eadd] at Hx5 ⊢
        have Hx5 := Lib.hid Hx5
        clear hok Hx4
        have lx := valid_len vx
        have ly := valid_len vy
        have lz := valid_len vs
        have Lz := Lib.hid lz
        have Lx := Lib.hid lx
        have Ly := Lib.hid ly
        clear lx ly lz
        have hfx : ∀ q, w4.heap.size ≤ q → Not3 ba bb bc q := fun q hq => by unfold Not3; omega
        have hmm : ((m : Int) == m) = true := by simp
        simp only [Lz.out]
        go_wp2_with fail
        refine (step_n _ c1 _ (px ls k).1 rfl hfx HA0.out (Hxw0.out.mono fun b _ h => by unfold Not3; omega) vx).mono ?_
        rintro e wa ⟨ax, cx, rfl, hma, hxa, hA1⟩
        have hsa := hma.size
        have HA1 := Lib.hid hA1
        have HB1 := Lib.hid (HB0.out.mod hma (fun h => by omega) (fun b _ h e => h.1 e))
        have HC1 := Lib.hid (HC0.out.mod hma (fun h => by omega) (fun b _ h e => h.1 e))
        have Hyw1 := Lib.hid (Hyw0.out.mod hma (fun b _ h e => by omega))
        have Hma := Lib.hid (Hmod0.out.trans (hma.mono (fun b _ e => by omega)))
        have r5 := hma.cell r4 (by simp; omega)
        have Hxa := Lib.hid hxa
        have Hx6 := Lib.hid (Hx5.out.mod hma (fun b _ h e => by omega))
        have hvx : validL (rx sa (sa.length - 1)) m = true := HA0.out.rows _ (by have := HA0.out.one; omega)
        have hvy : validL (rx sb (sb.length - 1)) m = true := HB0.out.rows _ (by have := HB0.out.one; omega)
        have hvz : validL (rx sc (sc.length - 1)) m = true := HC0.out.rows _ (by have := HC0.out.one; omega)
        have hzz : rx sc (sc.length - 1) = sumsL (rx sa (sa.length - 1)) (rx sb (sb.length - 1)) := by rw [Hla.out, Hlb.out, Hlc.out]; exact Hsum.out _ (by omega)
        have Hzz := Lib.hid hzz
        rw [hzz] at hvz
        have e9 := add_of_valid hvx hvy hvz
        have hlx := valid_len hvx
        have hly := valid_len hvy
        have hlz := valid_len hvz
        have Hlx := Lib.hid hlx
        have Hly := Lib.hid hly
        have Hlz := Lib.hid hlz
        have E9 := Lib.hid e9
        clear hma hxa hA1 HA0 HB0 HC0 Hxw0 Hyw0 Hmod0 r3 r4 hlx hly hlz hzz e9 Hx5
        go_wp2_with fail
        refine (step_n _ c2 _ (px ls k).2 rfl (fun q hq => by unfold Not3; omega) HB1.out (Hyw1.out.mono fun b _ h => by unfold Not3; omega) vy).mono ?_
        rintro e wb ⟨ay, cy, rfl, hmb, hyb, hB2⟩
        have hsb := hmb.size
        have HA2 := Lib.hid (HA1.out.mod hmb (fun h => by omega) (fun b _ h e => h.2.1 e))
        have HB2 := Lib.hid hB2
        have HC2 := Lib.hid (HC1.out.mod hmb (fun h => by omega) (fun b _ h e => h.2.1 e))
        have Hxb := Lib.hid (Hxa.out.mod hmb (fun b _ h e => h.2.1 e))
        have Hmb := Lib.hid (Hma.out.trans (hmb.mono (fun b _ e => by omega)))
        have Hyb := Lib.hid hyb
        have Hx7 := Lib.hid (Hx6.out.mod hmb (fun b _ h e => by omega))
        clear hmb hyb hB2 HA1 HB1 HC1 Hyw1 Hma r5 Hxa Hx6
        go_wp2_with fail
        refine (step_n _ c4 _ (sumsL (px ls k).1 (px ls k).2) Lz.out (fun q hq => by unfold Not3; omega) HC2.out (Hx7.out.mono fun b _ h => by unfold Not3; omega) vs).mono ?_
        rintro e wc ⟨az, cz, rfl, hmc, hzc, hC3⟩
        have HA3 := Lib.hid (HA2.out.mod hmc (fun h => by omega) (fun b _ h e => h.2.2 e))
        have HB3 := Lib.hid (HB2.out.mod hmc (fun h => by omega) (fun b _ h e => h.2.2 e))
        have HC3 := Lib.hid hC3
        have Hmc := Lib.hid (Hmb.out.trans (hmc.mono (fun b _ e => by omega)))
        have Hxc := Lib.hid (Hxb.out.mod hmc (fun b _ h e => h.2.2 e))
        have Hyc := Lib.hid (Hyb.out.mod hmc (fun b _ h e => h.2.2 e))
        rw [Hzz.out] at hzc
        have Hzc := Lib.hid hzc
        clear hmc hzc hC3 HA2 HB2 HC2 Hxb Hyb Hmb Hx7
        go_wp2_with fail
        refine (radd_n ax ay cx cy m m _ _ _ _ _ Hlx.out Hly.out Hxc.out Hyc.out).mono ?_
        rintro e wd ⟨aw, cw, rfl, hmd, hwd⟩
        rw [E9.out] at hwd ⊢
        have Hwd := Lib.hid hwd
        have HA4 := Lib.hid (HA3.out.kept hmd)
        have HB4 := Lib.hid (HB3.out.kept hmd)
        have HC4 := Lib.hid (HC3.out.kept hmd)
        have Hmd := Lib.hid (Hmc.out.trans hmd.only)
        have Hzd := Lib.hid (Hzc.out.frame hmd)
        clear hmd hwd HA3 HB3 HC3 Hxc Hyc Hzc Hmc
        simp only [Hlz.out]
        go_wp2_with fail
        refine (same_eq az aw cz cw m _ Hlz.out Hzd.out Hwd.out).mono ?_
        rintro e we ⟨rfl, hme⟩
        have HA5 := Lib.hid (HA4.out.kept hme)
        have HB5 := Lib.hid (HB4.out.kept hme)
        have HC5 := Lib.hid (HC4.out.kept hme)
        have Hme := Lib.hid (Hmd.out.trans hme.only)
        clear hme HA4 HB4 HC4 Hmd Hzd Hwd
        go_wp2
        refine ⟨⟨k + 1, _, _, _, by omega, by go_num, Hme.out, ?_, ?_, ?_, HA5.out, HB5.out, HC5.out, fun j hj => ?_⟩, by simp [intOf]; omega⟩
        · rw [List.length_cons, List.length_dropLast, Hla.out]; omega
        · rw [List.length_cons, List.length_dropLast, Hlb.out]; omega
        · rw [List.length_cons, List.length_dropLast, Hlc.out]; omega
        · cases j with
          | zero => rw [rx_cons_zero, rx_cons_zero, rx_cons_zero]
          | succ j =>
            have g1 := Hla.out
            have g2 := Hlb.out
            have g3 := Hlc.out
            rw [rx_cons_succ, rx_cons_succ, rx_cons_succ, rx_dropLast (by omega), rx_dropLast (by omega), rx_dropLast (by omega)]; exact Hsum.out j (by omega)
      · generalize (addL (px ls k).1 (px ls k).2) = rr at hok ⊢
        by_cases hz : rr.2 = 0
        · have hz1 : (rr.2 != 0) = false := by simpa using hz
          have hz2 : ((rr.1.length : Int) != m) = true := by
            simp; intro h; exact hok ⟨hz, by omega⟩
          clear hok hz
          go_wp2
          exact ⟨⟨k + 1, sa, sb, sc, by omega, by go_num, Hmod0.out, Hla.out, Hlb.out, Hlc.out, HA0.out, HB0.out, HC0.out, Hsum.out⟩, by simp [intOf]; omega⟩
        · have hz1 : (rr.2 != 0) = true := by simpa using hz
          clear hok hz
          go_wp2
          exact ⟨⟨k + 1, sa, sb, sc, by omega, by go_num, Hmod0.out, Hla.out, Hlb.out, Hlc.out, HA0.out, HB0.out, HC0.out, Hsum.out⟩, by simp [intOf]; omega⟩
    · have Hmod := Lib.hid (Hm3.out.step hmod (fun i hi e => by omega))
      clear hmod hla hlb hlc ha1 hb1 hc1 hsum
      go_wp2_with fail
      refine (awake_any _).mono ?_
      rintro e w9 ⟨rfl, hm9⟩
      have Hm9 := Lib.hid (Hmod.out.trans hm9)
      clear hm9
      go_wp2
      go_ret
      exact ⟨rfl, Hm9.out⟩

set_option maxRecDepth 100000 in
set_option maxHeartbeats 400000 in
theorem beltAdds_bad (n m : Int) (a : Option Addr) (q c : Nat) (w : World) (h : 60 < q ∨ n < 1 ∨ 16 < n ∨ m < 1 ∨ 16 < m) :
    Calls Try.prog 9 #[.int .i64 n, .int .i64 m, .slice a q c] w fun e w' => e = .returned (.bool true) ∧ Mod NoBlock w w' := by
  by_cases g0 : 60 < q
  rotate_left
  by_cases g1 : n < 1
  rotate_left
  by_cases g2 : 16 < n
  rotate_left
  by_cases g5 : m < 1
  rotate_left
  have g6 : 16 < m := by omega
  all_goals
    clear h
    go_enter Try.func9, Try.ntmps9
    go_wp2_with (go_at_call 17; refine (awake_any _).mono ?_; rintro e w9 ⟨rfl, hmc⟩)
    go_ret
    exact ⟨rfl, hmc⟩

theorem beltAdds_fin {w : World} (n : Int) (_ : I64 n) (m : Int) (_ : I64 m) (a : Option Addr) (c : Nat) (l : List (List Int × List Int)) (hx : Mix2s w a l) (_ : World) :
    Calls Try.prog 9 #[.int .i64 n, .int .i64 m, .slice a l.length c] w fun e w' => e = .returned (.bool true) ∧ Mod NoBlock w w' := by
  by_cases h : 60 < l.length ∨ n < 1 ∨ 16 < n ∨ m < 1 ∨ 16 < m
  · exact beltAdds_bad n m a _ c w h
  · obtain ⟨n', rfl⟩ : ∃ k : Nat, n = k := ⟨n.toNat, by omega⟩
    obtain ⟨m', rfl⟩ : ∃ k : Nat, m = k := ⟨m.toNat, by omega⟩
    exact beltAdds_ok n' m' a c l w hx (by omega) (by omega) (by omega) (by omega) (by omega)

end Go.Proofs.Ytinoekldcchfhaa
