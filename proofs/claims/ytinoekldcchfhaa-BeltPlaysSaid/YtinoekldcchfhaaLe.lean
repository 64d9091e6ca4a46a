/-
  The law BeltSeries.
-/
import Derived.Test.YtinoekldcchfhaaLd
import Derived.Test.YtinoekldcchfhaaOpm
set_option linter.unusedVariables false
set_option linter.unusedSimpArgs false
namespace Go.Proofs.Ytinoekldcchfhaa
open Go.RowKit

theorem step_n {D : Nat → Prop} {bb m : Nat} {sl : List (List Int)} {w : World} (a : Option Addr) (c n : Nat) (xs : List Int) (hn : xs.length = n) (hf : ∀ k, w.heap.size ≤ k → D k) (hb : BeltAt D w bb m sl) (hx : Ints D w a xs) (hv : validL xs m = true) :
    Calls Try.prog 21 #[.pointer (some ⟨bb, 0, Option.none⟩), .slice a n c] w fun e w' => ∃ a' c', e = .returned (.tuple #[.slice a' m c', .int .i64 0]) ∧
      Mod (fun b => b = bb) w w' ∧ Ints D w' a' (rx sl (sl.length - 1)) ∧ BeltAt D w' bb m (xs :: sl.dropLast) := by
  subst hn; exact step_gen a c xs hf hb hx hv
theorem last_of {l : List (List Int)} (h : 1 ≤ l.length) : l = l.dropLast ++ [rx l (l.length - 1)] := by
  have hne : l ≠ [] := by intro e; subst e; simp at h
  rw [rx_eq (by omega), ← List.getLast_eq_getElem hne, List.dropLast_concat_getLast]
theorem two_belts {s t : List (List Int)} (xs : List Int) (hs : 1 ≤ s.length) (ht : 1 ≤ t.length) : (xs :: s.dropLast) ++ (rx s (s.length - 1) :: t.dropLast) = xs :: (s ++ t).dropLast := by
  have hne : t ≠ [] := by intro e; subst e; simp at ht
  rw [List.dropLast_append_of_ne_nil hne]
  conv => rhs; rw [last_of hs]
  simp
theorem two_last {s t : List (List Int)} (ht : 1 ≤ t.length) : rx (s ++ t) ((s ++ t).length - 1) = rx t (t.length - 1) := by
  have : ∀ k, k < t.length → rx (s ++ t) (s.length + k) = rx t k := fun k hk => by simp [rx, List.getElem?_append_right (Nat.le_add_right _ _)]
  rw [← this _ (by omega)]
  congr 1
  simp; omega

theorem BeltAt.lt' {D : Nat → Prop} {w : World} {bb m : Nat} {sl : List (List Int)} (h : BeltAt D w bb m sl) : BeltAt (fun b => D b ∧ b < w.heap.size) w bb m sl := h.mono (fun b h1 h2 => ⟨h2, h1⟩) (fun h' => h.away h'.1)

/-- Not in one of three blocks. -/
def Not3 (a b c : Nat) : Nat → Prop := fun k => k ≠ a ∧ k ≠ b ∧ k ≠ c

set_option maxRecDepth 100000 in
set_option maxHeartbeats 1600000 in
theorem beltSeries_ok (n1 n2 m : Nat) (a : Option Addr) (c : Nat) (xss : List (List Int)) (w : World) (hx : Mixes Any w a xss) (hl : xss.length ≤ 60) (hn1 : 1 ≤ n1) (hn2 : 1 ≤ n2) (hn : n1 + n2 ≤ 16) (hm : 1 ≤ m) (hm2 : m ≤ 16) :
    Calls Try.prog 8 #[.int .i64 n1, .int .i64 n2, .int .i64 m, .slice a xss.length c] w fun e w' => e = .returned (.bool true) ∧ Mod NoBlock w w' := by
  obtain ⟨-, b, off, ha, hcell⟩ := hx.open
  have d0 : decide (60 < (xss.length : Int)) = false := by simp; omega
  have d1 : decide ((n1 : Int) < 1) = false := by simp; omega
  have d2 : decide ((n2 : Int) < 1) = false := by simp; omega
  have d3 : decide (16 < (n1 : Int)) = false := by simp; omega
  have d4 : decide (16 - (n1 : Int) < n2) = false := by simp; omega
  have d5 : decide ((m : Int) < 1) = false := by simp; omega
  have d6 : decide (16 < (m : Int)) = false := by simp; omega
  have d7 : IntKind.i64.wrap (16 - (n1 : Int)) = 16 - (n1 : Int) := IntWalk.i64_in _ (by omega)
  have d8 : IntKind.i64.wrap ((n1 : Int) + n2) = ((n1 + n2 : Nat) : Int) := by rw [IntWalk.i64_in _ (by omega)]; omega
  have Hcell := Lib.hid hcell
  have Ha := Lib.hid ha
  clear hcell ha hx
  go_enter Try.func8, Try.ntmps8
  go_wp2_with fail
  refine (beltNew_ok n1 m _ hn1 (by omega) hm hm2).mono ?_
  rintro e w1 ⟨rfl, hm1, hb1⟩
  have k1 := hb1.lt
  have Hb1 := Lib.hid hb1
  have Hm1 := Lib.hid hm1
  clear hb1 hm1
  go_wp2_with fail
  refine (beltNew_ok n2 m _ hn2 (by omega) hm hm2).mono ?_
  rintro e w2 ⟨rfl, hm2', hb2⟩
  have k2 := hb2.lt
  have Hb12 := Lib.hid (Hb1.out.lt'.kept hm2')
  have Hb2 := Lib.hid hb2
  have Hm2 := Lib.hid (Hm1.out.trans hm2')
  clear hb2 hm2' Hb1 Hm1
  go_wp2_with fail
  refine (beltNew_ok (n1 + n2) m _ (by omega) hn hm hm2).mono ?_
  rintro e w3 ⟨rfl, hm3', hb3⟩
  have k3 := hb3.lt
  have Hb13 := Lib.hid (Hb12.out.kept hm3')
  have Hb23 := Lib.hid (Hb2.out.lt'.kept hm3')
  have Hb3 := Lib.hid hb3
  have Hm3 := Lib.hid (Hm2.out.trans hm3')
  clear hb3 hm3' Hb12 Hb2 Hm2
  generalize w1.heap.size = bb at *
  generalize w2.heap.size = bc at *
  generalize hba : w.heap.size = ba at *
  have hca : BeltAt (Not3 ba bb bc) w3 ba m (noughts n1 m) := Hb13.out.mono (fun k h1 h2 => by unfold Not3; omega) (fun h => h.1 rfl)
  have hcb : BeltAt (Not3 ba bb bc) w3 bb m (noughts n2 m) := Hb23.out.mono (fun k h1 h2 => by unfold Not3; omega) (fun h => h.2.1 rfl)
  have hcc : BeltAt (Not3 ba bb bc) w3 bc m (noughts (n1 + n2) m) := Hb3.out.mono (fun k h1 h2 => by unfold Not3; omega) (fun h => h.2.2 rfl)
  have Hca := Lib.hid hca
  have Hcb := Lib.hid hcb
  have Hcc := Lib.hid hcc
  clear hca hcb hcc Hb13 Hb23 Hb3
  go_wp2_with fail
  have hcell2 : ∀ k, k < xss.length → ∃ a' c', w3.cell? ⟨b, off + k, Option.none⟩ = some (.slice a' (rx xss k).length c') ∧ Ints (fun k => k < ba) w3 a' (rx xss k) ∧ b < ba := by
    intro k hk
    obtain ⟨a', c', h1, h2⟩ := Hcell.out k hk
    have hb' := World.block_lt_of_cell? w _ h1
    exact ⟨a', c', Hm3.out.cell h1 (fun h => h), (h2.lt.frame Hm3.out).mono fun b _ hb => by omega, by simpa [hba] using hb'⟩
  have Hcell2 := Lib.hid hcell2
  clear hcell2 Hcell
  go_loopw [15] (fun i wr => ∃ (k : Nat) (sa sb : List (List Int)), k ≤ xss.length ∧ i = .int .i64 k ∧ Mod (fun b => ba ≤ b) w3 wr ∧ sa.length = n1 ∧ sb.length = n2 ∧
    BeltAt (Not3 ba bb bc) wr ba m sa ∧ BeltAt (Not3 ba bb bc) wr bb m sb ∧ BeltAt (Not3 ba bb bc) wr bc m (sa ++ sb)) (fun i _ => xss.length - (intOf i).toNat)
  case atStart =>
    refine ⟨0, noughts n1 m, noughts n2 m, by omega, rfl, Mod.refl _ _, noughts_length _ _, noughts_length _ _, Hca.out, Hcb.out, ?_⟩
    have e : noughts n1 m ++ noughts n2 m = noughts (n1 + n2) m := by simp [noughts]
    rw [e]; exact Hcc.out
  case round =>
    obtain ⟨k, sa, sb, hk, rfl, hmod, hla, hlb, ha1, hb1, hc1⟩ := hrel
    by_cases hkn : k < xss.length
    · obtain rfl := Ha.out (by intro e; subst e; simp at hkn)
      obtain ⟨a', c', h1, h2, hbl⟩ := Hcell2.out k hkn
      have hc3 : wr.cell? ⟨b, off + k, Option.none⟩ = some (.slice a' (rx xss k).length c') := hmod.cell h1 (by simp; omega)
      have hx3 : Ints (Not3 ba bb bc) wr a' (rx xss k) := (h2.mod hmod (fun b _ h => by omega)).mono fun b _ h => by unfold Not3; omega
      have hxw : Ints (fun k => k < ba) wr a' (rx xss k) := h2.mod hmod (fun b _ h => by omega)
      have hsz := hmod.size
      have q1 : (0 : Int) ≤ (k : Int) := by omega
      have q2 : (k : Int) < (xss.length : Int) := by omega
      have Hla := Lib.hid hla
      have Hlb := Lib.hid hlb
      have Hx3 := Lib.hid hx3
      have Hxw := Lib.hid hxw
      have Hmod := Lib.hid hmod
      have HA := Lib.hid ha1
      have HB := Lib.hid hb1
      have HC := Lib.hid hc1
      clear hla hlb hx3 hxw hmod ha1 hb1 hc1 h1 h2
      go_wp2_with fail
      refine (rvalid_any _ _ _ _ _ _ Hx3.out).mono ?_
      rintro e wv ⟨rfl, rfl⟩
      by_cases hv : validL (rx xss k) m = true
      · rw [hv]
        go_wp2_with fail
        have hrl := valid_len hv
        refine (step_n _ c' _ (rx xss k) rfl (fun q hq => by unfold Not3; omega) HA.out Hx3.out hv).mono ?_
        rintro e wa ⟨ax, cx, rfl, hma, hxa, hA1⟩
        have hsa := hma.size
        have HA1 := Lib.hid hA1
        have HB1 := Lib.hid (HB.out.mod hma (fun h => by omega) (fun b _ h e => h.1 e))
        have HC1 := Lib.hid (HC.out.mod hma (fun h => by omega) (fun b _ h e => h.1 e))
        have Hxw1 := Lib.hid (Hxw.out.mod hma (fun b _ h e => by omega))
        have Hma := Lib.hid (Hmod.out.trans (hma.mono (fun b _ e => by omega)))
        have hc4 := hma.cell hc3 (by simp; omega)
        have Hxa := Lib.hid hxa
        have hvx : validL (rx sa (sa.length - 1)) m = true := HA.out.rows _ (by have := HA.out.one; omega)
        have hlx := valid_len hvx
        have Hlx := Lib.hid hlx
        have hly' : (rx sb (sb.length - 1)).length = m := HB.out.rowLen (by have := HB.out.one; omega)
        have Hly := Lib.hid hly'
        clear hly'
        clear hma hxa hA1 HA HB HC Hx3 Hxw Hmod hc3 hlx
        go_wp2_with fail
        refine (step_n _ cx _ (rx sa (sa.length - 1)) Hlx.out (fun q hq => by unfold Not3; omega) HB1.out Hxa.out hvx).mono ?_
        rintro e wb ⟨ay, cy, rfl, hmb, hyb, hB2⟩
        have hsb := hmb.size
        have HA2 := Lib.hid (HA1.out.mod hmb (fun h => by omega) (fun b _ h e => h.2.1 e))
        have HB2 := Lib.hid hB2
        have HC2 := Lib.hid (HC1.out.mod hmb (fun h => by omega) (fun b _ h e => h.2.1 e))
        have Hxw2 := Lib.hid (Hxw1.out.mod hmb (fun b _ h e => by omega))
        have Hmb := Lib.hid (Hma.out.trans (hmb.mono (fun b _ e => by omega)))
        have hc5 := hmb.cell hc4 (by simp; omega)
        have Hyb := Lib.hid hyb
        clear hmb hyb hB2 HA1 HB1 HC1 Hxw1 Hma hc4 Hxa
        go_wp2_with fail
        refine (step_n _ c' _ (rx xss k) hrl (fun q hq => by unfold Not3; omega) HC2.out (Hxw2.out.mono fun b _ h => by unfold Not3; omega) hv).mono ?_
        rintro e wc ⟨az, cz, rfl, hmc, hzc, hC3⟩
        have HA3 := Lib.hid (HA2.out.mod hmc (fun h => by omega) (fun b _ h e => h.2.2 e))
        have HB3 := Lib.hid (HB2.out.mod hmc (fun h => by omega) (fun b _ h e => h.2.2 e))
        have HC3 := Lib.hid hC3
        have Hmc := Lib.hid (Hmb.out.trans (hmc.mono (fun b _ e => by omega)))
        have Hyc := Lib.hid (Hyb.out.mod hmc (fun b _ h e => h.2.2 e))
        have hl1 : 1 ≤ sa.length := by rw [Hla.out]; omega
        have hl2 : 1 ≤ sb.length := by rw [Hlb.out]; omega
        rw [two_last hl2] at hzc
        have Hzc := Lib.hid hzc
        clear hmc hzc hC3 HA2 HB2 HC2 Hxw2 Hmb hc5 Hyb
        have hmm : ((m : Int) == m) = true := by simp
        go_wp2_with fail
        refine (same_eq ay az cy cz m _ Hly.out Hyc.out Hzc.out).mono ?_
        rintro e wd ⟨rfl, hmd⟩
        have HA4 := Lib.hid (HA3.out.kept hmd)
        have HB4 := Lib.hid (HB3.out.kept hmd)
        have HC4 := Lib.hid (HC3.out.kept hmd)
        have Hmd := Lib.hid (Hmc.out.trans hmd.only)
        clear hmd HA3 HB3 HC3 Hmc Hyc Hzc
        go_wp2
        refine ⟨⟨k + 1, _, _, by omega, by go_num, Hmd.out, ?_, ?_, HA4.out, HB4.out, ?_⟩, by simp [intOf]; omega⟩
        · rw [List.length_cons, List.length_dropLast, Hla.out]; omega
        · rw [List.length_cons, List.length_dropLast, Hlb.out]; omega
        · rw [two_belts _ hl1 hl2]; exact HC4.out
      · have hv' : validL (rx xss k) m = false := by simpa using hv
        rw [hv']
        go_wp2
        exact ⟨⟨k + 1, sa, sb, by omega, by go_num, Hmod.out, Hla.out, Hlb.out, HA.out, HB.out, HC.out⟩, by simp [intOf]; omega⟩
    · have Hmod := Lib.hid (Hm3.out.step hmod (fun i hi e => by omega))
      clear hmod hla hlb ha1 hb1 hc1
      go_wp2_with fail
      refine (awake_any _).mono ?_
      rintro e w9 ⟨rfl, hm9⟩
      have Hm9 := Lib.hid (Hmod.out.trans hm9)
      clear hm9
      go_wp2
      go_ret
      exact ⟨rfl, Hm9.out⟩

set_option maxRecDepth 100000 in
set_option maxHeartbeats 400000 in
theorem beltSeries_bad (n1 n2 m : Int) (i1 : I64 n1) (a : Option Addr) (q c : Nat) (w : World) (h : 60 < q ∨ n1 < 1 ∨ n2 < 1 ∨ 16 < n1 ∨ 16 < n1 + n2 ∨ m < 1 ∨ 16 < m) :
    Calls Try.prog 8 #[.int .i64 n1, .int .i64 n2, .int .i64 m, .slice a q c] w fun e w' => e = .returned (.bool true) ∧ Mod NoBlock w w' := by
  unfold I64 at i1
  by_cases g0 : 60 < q
  rotate_left
  by_cases g1 : n1 < 1
  rotate_left
  by_cases g2 : n2 < 1
  rotate_left
  by_cases g3 : 16 < n1
  rotate_left
  have d7 : IntKind.i64.wrap (16 - n1) = 16 - n1 := IntWalk.i64_in _ (by omega)
  by_cases g4 : 16 - n1 < n2
  rotate_left
  by_cases g5 : m < 1
  rotate_left
  have g6 : 16 < m := by omega
  all_goals
    clear h i1
    go_enter Try.func8, Try.ntmps8
    go_wp2_with (go_at_call 17; refine (awake_any _).mono ?_; rintro e w9 ⟨rfl, hmc⟩)
    go_ret
    exact ⟨rfl, hmc⟩

theorem beltSeries_fin {w : World} (n1 : Int) (i1 : I64 n1) (n2 : Int) (_ : I64 n2) (m : Int) (_ : I64 m) (a : Option Addr) (c : Nat) (xss : List (List Int)) (hx : Mixes Any w a xss) (_ : xss.length ≤ c) (_ : ∀ k y, y ∈ rx xss k → I64 y) (_ : World) :
    Calls Try.prog 8 #[.int .i64 n1, .int .i64 n2, .int .i64 m, .slice a xss.length c] w fun e w' => e = .returned (.bool true) ∧ Mod NoBlock w w' := by
  by_cases h : 60 < xss.length ∨ n1 < 1 ∨ n2 < 1 ∨ 16 < n1 ∨ 16 < n1 + n2 ∨ m < 1 ∨ 16 < m
  · exact beltSeries_bad n1 n2 m i1 a _ c w h
  · obtain ⟨n1', rfl⟩ : ∃ k : Nat, n1 = k := ⟨n1.toNat, by omega⟩
    obtain ⟨n2', rfl⟩ : ∃ k : Nat, n2 = k := ⟨n2.toNat, by omega⟩
    obtain ⟨m', rfl⟩ : ∃ k : Nat, m = k := ⟨m.toNat, by omega⟩
    exact beltSeries_ok n1' n2' m' a c xss w hx (by omega) (by omega) (by omega) (by omega) (by omega) (by omega)

end Go.Proofs.Ytinoekldcchfhaa
