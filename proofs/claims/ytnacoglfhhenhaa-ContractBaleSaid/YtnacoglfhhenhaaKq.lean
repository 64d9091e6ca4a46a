/-
  contract: the sum of an assignment, walked.
-/
import Derived.Test.YtnacoglfhhenhaaKf
import Derived.Test.YtnacoglfhhenhaaKd
import Derived.Deep.QuietTactic
import Derived.BigQuiet
set_option linter.unusedVariables false
set_option linter.unusedSimpArgs false
namespace Go.Proofs.Ytnacoglfhhenhaa
open Go.RowKit

/-- Row i has a column that fits it and that no row before it has, or none. -/
def OkRow (g : List (Int × Int)) (l : List Ctr) (bs : List Bal) (cols : List Int) (i : Nat) : Prop :=
  ix cols i = -1 ∨ (0 ≤ ix cols i ∧ ix cols i < bs.length ∧ fitB (cx l i) g (bx bs (ix cols i).toNat) = true ∧ ∀ j, j < i → ix cols j ≠ ix cols i)
def valRow (g : List (Int × Int)) (l : List Ctr) (bs : List Bal) (cols : List Int) (i : Nat) : Int :=
  if ix cols i = -1 then missC (cx l i) 0 else costB g (cx l i) (bx bs (ix cols i).toNat)
theorem valRow_bd {g : List (Int × Int)} {l : List Ctr} {bs : List Bal} {cols : List Int} {i : Nat} (hN : NumC (cx l i)) (h : OkRow g l bs cols i) : 0 ≤ valRow g l bs cols i ∧ valRow g l bs cols i ≤ 1073741824 := by
  unfold valRow
  rcases h with h | ⟨h0, _, hf, _⟩
  · rw [if_pos h]; exact missC_bd hN (by omega)
  · rw [if_neg (by omega)]
    unfold costB
    rw [hf]
    exact missC_bd hN (tot_fit hf).2.1
theorem sumR_bd {n : Nat} {f : Nat → Int} {B : Int} (h : ∀ i, i < n → 0 ≤ f i ∧ f i ≤ B) : 0 ≤ sumR n f ∧ sumR n f ≤ n * B := by
  induction n with
  | zero => simp [sumR]
  | succ n ih =>
    have h1 := ih fun i hi => h i (by omega)
    have h2 := h n (by omega)
    have e : ((n + 1 : Nat) : Int) * B = n * B + B := by rw [Int.natCast_add, Int.add_mul]; omega
    unfold sumR
    rw [e]
    omega

def SumRes (g : List (Int × Int)) (l : List Ctr) (bs : List Bal) (cols : List Int) (w : World) (e : Ending) (w' : World) : Prop :=
  ∃ (r : Bool) (t : Int), e = .returned (.tuple #[.int .i64 t, .bool r]) ∧ Mod NoBlock w w' ∧ (r = true → (∀ i, i < l.length → OkRow g l bs cols i) ∧ t = sumR l.length (valRow g l bs cols)) ∧ ((∀ i, i < l.length → OkRow g l bs cols i) → r = true)
theorem SumRes.no {g : List (Int × Int)} {l : List Ctr} {bs : List Bal} {cols : List Int} {w w' : World} {q : Nat} (hq : q < l.length) (h : ¬ OkRow g l bs cols q) (m : Mod NoBlock w w') : SumRes g l bs cols w (.returned (.tuple #[.int .i64 0, .bool false])) w' :=
  ⟨false, 0, rfl, m, (fun h => by cases h), fun hh => absurd (hh q hq) h⟩

set_option maxRecDepth 100000 in
set_option maxHeartbeats 6400000 in
theorem sum_any {D E F G : Nat → Prop} {w : World} {a aG aB aC : Option Addr} {c cG cB cC : Nat} {l : List Ctr} {g : List (Int × Int)} {bs : List Bal} {cols : List Int} (hx : Ctrs D w a l) (hg : Grs E w aG g) (hb : Bals F w aB bs) (hC : Ints G w aC cols)
    (hN : ∀ i, i < l.length → NumC (cx l i)) (hn : cols.length = l.length) (hcap : cols.length ≤ cC) (l16 : l.length ≤ 16) (hbl : bs.length ≤ 60) :
    Calls Try.prog 23 #[.slice a l.length c, .slice aG g.length cG, .slice aB bs.length cB, .slice aC l.length cC] w (SumRes g l bs cols w) := by
  have HG := Lib.hid hg
  obtain ⟨_, bL, oL, haL, hcL⟩ := hx.open
  obtain ⟨_, bB, oB, haB, hcB⟩ := hb.open
  obtain ⟨_, bC, oC, haC, hcC⟩ := hC.open
  have HaL := Lib.hid haL
  have HcL := Lib.hid hcL
  have HaB := Lib.hid haB
  have HcB := Lib.hid hcB
  have HaC := Lib.hid haC
  have HcC := Lib.hid hcC
  have HN := Lib.hid hN
  rw [hn] at hcap HcC
  have Hn := Lib.hid hn
  clear haL hcL haB hcB haC hcC hx hg hb hC hN hn
  go_enter Try.func23, Try.ntmps23
  go_wp2_with fail
  go_loopw [10, 22] (fun tv iv wr => ∃ q : Nat, q ≤ l.length ∧ iv = .int .i64 q ∧ (∀ i, i < q → OkRow g l bs cols i) ∧ tv = .int .i64 (sumR q (valRow g l bs cols)) ∧ Mod NoBlock w wr) (fun _ iv _ => l.length - (intOf iv).toNat)
  case atStart => exact ⟨0, by omega, rfl, fun i hi => absurd hi (Nat.not_lt_zero i), rfl, Mod.refl _ _⟩
  case round =>
    obtain ⟨q, hq, rfl, hok, rfl, hm⟩ := hrel
    have HK := Lib.hid hok
    have M := Lib.hid hm
    clear hm
    obtain ⟨wo, rfl⟩ : ∃ wo : World, wo = wr := ⟨_, rfl⟩
    by_cases hlt : q < l.length
    · have q1 : (q : Int) < (l.length : Int) := by omega
      have q2 : (q : Int) ≤ (cC : Int) := by omega
      obtain ⟨s0, s1⟩ := sumR_bd (f := valRow g l bs cols) (B := 1073741824) fun i hi => valRow_bd (HN.out i (by omega)) (hok i hi)
      have s2 : sumR q (valRow g l bs cols) ≤ 17179869184 := by omega
      clear s1 hok
      obtain rfl := HaL.out (by intro e; rw [e] at hlt; simp at hlt)
      obtain rfl := HaC.out (by intro e; have h9 := Hn.out; rw [e] at h9; simp at h9; omega)
      have kc := M.out.cell (HcC.out q (by omega)) id
      have HNq := Lib.hid (HN.out q hlt)
      obtain ⟨k, hk⟩ : ∃ k, ix cols q = k := ⟨_, rfl⟩
      rw [hk] at kc
      have Hk := Lib.hid hk
      obtain ⟨x, hx⟩ : ∃ x, cx l q = x := ⟨_, rfl⟩
      have Hx := Lib.hid hx
      rw [hx] at HNq
      have HcLq := Lib.hid fun (w' : World) (m : Mod NoBlock w w') => (HcL.out q hlt).mod m id
      rw [hx] at HcLq
      obtain ⟨sq, hsq⟩ : ∃ sq, sumR q (valRow g l bs cols) = sq := ⟨_, rfl⟩
      rw [hsq] at s0 s2 ⊢
      have HSq := Lib.hid hsq
      clear hk hx hsq
      by_cases k1 : k < -1
      · have Hno : Hid (¬ OkRow g l bs cols q) := Lib.hid fun h => by unfold OkRow at h; rw [Hk.out] at h; rcases h with h | ⟨h, _⟩ <;> omega
        go_wp2_with fail
        go_ret2
        exact SumRes.no hlt Hno.out M.out
      by_cases k2 : (bs.length : Int) ≤ k
      · have Hno : Hid (¬ OkRow g l bs cols q) := Lib.hid fun h => by unfold OkRow at h; rw [Hk.out] at h; rcases h with h | ⟨_, h, _⟩ <;> omega
        go_wp2_with fail
        go_ret2
        exact SumRes.no hlt Hno.out M.out
      by_cases k3 : k = -1
      · subst k3
        have HOk : Hid (OkRow g l bs cols q) := Lib.hid (.inl Hk.out)
        obtain ⟨ms, hms⟩ : ∃ ms, missC x 0 = ms := ⟨_, rfl⟩
        have hb0 := missC_bd HNq.out (Int.le_refl 0)
        rw [hms] at hb0
        obtain ⟨b0, b1⟩ := hb0
        have HVq : Hid (valRow g l bs cols q = ms) := Lib.hid (by unfold valRow; rw [if_pos Hk.out, Hx.out, hms])
        have Hmi := Lib.hid fun w' => (show Calls Try.prog 19 #[.agg #[.int .i64 x.i, .int .i64 x.m, .int .i64 x.g, .int .i64 x.w, .int .i64 x.s, .int .i64 x.p, .int .i64 x.q], .int .i64 0] w' fun e w'' => e = .returned (.tuple #[.int .i64 ms, .int .i64 0]) ∧ Mod NoBlock w' w'' by
          have := mis_any x 0 w'
          rwa [misC_ok HNq.out (by omega) (by omega), hms] at this)
        have wt : IntKind.i64.wrap (sq + ms) = sq + ms := IntWalk.i64_in _ (by omega)
        obtain ⟨d0, d1, d2, d3, d4, d5, d6⟩ := HcLq.out wo M.out
        clear k1 k2 hms
        go_upto_region 20 with (go_at_call 19; refine (Hmi.out _).mono ?_; rintro e w9 ⟨rfl, m⟩)
        have M9 := Lib.hid (M.out.trans m)
        clear m d0 d1 d2 d3 d4 d5 d6
        go_wp2_with fail
        exact ⟨⟨q + 1, by omega, by go_num, fun i hi => by
          by_cases e : i = q
          · rw [e]; exact HOk.out
          · exact HK.out i (by omega), by
            show Value.int IntKind.i64 _ = .int .i64 (sumR q (valRow g l bs cols) + valRow g l bs cols q)
            rw [HSq.out, HVq.out], M9.out⟩, by simp [intOf]; omega⟩
      have k0 : 0 ≤ k := by omega
      obtain ⟨kn, rfl⟩ : ∃ kn : Nat, k = kn := ⟨k.toNat, by omega⟩
      have kb : kn < bs.length := by omega
      have kb' : (kn : Int) < (bs.length : Int) := by omega
      obtain rfl := HaB.out (by intro e; rw [e] at kb; simp at kb)
      obtain ⟨a', c', e0, e1, e2, e3, hmx⟩ := (HcB.out kn kb).frame M.out
      obtain ⟨y, hy⟩ : ∃ y, bx bs kn = y := ⟨_, rfl⟩
      rw [hy] at e0 e1 e2 e3 hmx
      have Hy := Lib.hid hy
      have HMx := Lib.hid hmx
      have Hgr := Lib.hid (balGrams_any y (c2 := c') hmx)
      have HOkf : Hid (OkRow g l bs cols q → fitB x g y = true) := Lib.hid fun h => by
        rcases h with h | ⟨_, _, h, _⟩
        · rw [Hk.out] at h; omega
        · rw [Hk.out, Int.toNat_natCast, Hx.out, Hy.out] at h; exact h
      have HE := Lib.hid (show Mod NoBlock wo wo ∧ wo.cell? ⟨bB, oB + kn * 4, none⟩ = some (.int .i64 y.id) ∧ wo.cell? ⟨bB, oB + kn * 4 + 1, none⟩ = some (.int .i64 y.mat) ∧ wo.cell? ⟨bB, oB + kn * 4 + 2, none⟩ = some (.int .i64 y.tm) ∧ wo.cell? ⟨bB, oB + kn * 4 + 3, none⟩ = some (.slice a' y.mix.length c') from ⟨Mod.refl _ _, e0, e1, e2, e3⟩)
      clear hy hmx k0 k1 k2 k3
      by_cases hf : fitB x g y = true
      case neg =>
        have Hno : Hid (¬ OkRow g l bs cols q) := Lib.hid fun h => hf (HOkf.out h)
        have hf' : fitB x g y = false := by simpa using hf
        by_cases ht : (totL y.mix).2 = 0
        case neg =>
          have htb : ((totL y.mix).2 != 0) = true := bne_iff_ne.2 ht
          generalize (totL y.mix).2 = t2 at Hgr htb
          generalize (totL y.mix).1 = t1 at Hgr
          clear hf hf' ht
          go_upto_region 10 with (go_at_call 32; refine Hgr.out.mono ?_; rintro e w5 ⟨rfl, m⟩)
          have M5 := Lib.hid (M.out.trans m)
          clear m e0 e1 e2 e3
          go_wp2_with (go_quiet (fail))
          go_ret2
          exact SumRes.no hlt Hno.out (M5.out.drewN _)
        rw [ht] at Hgr
        generalize (totL y.mix).1 = t1 at Hgr
        clear hf ht
        go_upto_region 10 with (go_at_call 32; refine Hgr.out.mono ?_; rintro e w5 ⟨rfl, m⟩)
        have M5 := Lib.hid (M.out.trans m)
        have Hp := Lib.hid fun (z : KeptT w5) => fits_any x y (c := cG) (c2 := c') (HG.out.frame (M5.out.trans z.mod)) (HMx.out.frame (m.trans z.mod))
        rw [hf'] at Hp
        have D0 : ∀ z : KeptT w5, z.w.cell? ⟨bL, oL + q * 7, none⟩ = some (.int .i64 x.i) := fun z => by have h9 := HcLq.out z.w (M5.out.trans z.mod); exact h9.1
        have D1 : ∀ z : KeptT w5, z.w.cell? ⟨bL, oL + q * 7 + 1, none⟩ = some (.int .i64 x.m) := fun z => by have h9 := HcLq.out z.w (M5.out.trans z.mod); exact h9.2.1
        have D2 : ∀ z : KeptT w5, z.w.cell? ⟨bL, oL + q * 7 + 2, none⟩ = some (.int .i64 x.g) := fun z => by have h9 := HcLq.out z.w (M5.out.trans z.mod); exact h9.2.2.1
        have D3 : ∀ z : KeptT w5, z.w.cell? ⟨bL, oL + q * 7 + 3, none⟩ = some (.int .i64 x.w) := fun z => by have h9 := HcLq.out z.w (M5.out.trans z.mod); exact h9.2.2.2.1
        have D4 : ∀ z : KeptT w5, z.w.cell? ⟨bL, oL + q * 7 + 4, none⟩ = some (.int .i64 x.s) := fun z => by have h9 := HcLq.out z.w (M5.out.trans z.mod); exact h9.2.2.2.2.1
        have D5 : ∀ z : KeptT w5, z.w.cell? ⟨bL, oL + q * 7 + 5, none⟩ = some (.int .i64 x.p) := fun z => by have h9 := HcLq.out z.w (M5.out.trans z.mod); exact h9.2.2.2.2.2.1
        have D6 : ∀ z : KeptT w5, z.w.cell? ⟨bL, oL + q * 7 + 6, none⟩ = some (.int .i64 x.q) := fun z => by have h9 := HcLq.out z.w (M5.out.trans z.mod); exact h9.2.2.2.2.2.2
        have E0 : ∀ z : KeptT w5, z.w.cell? ⟨bB, oB + kn * 4, none⟩ = some (.int .i64 y.id) := fun z => (m.trans z.mod).cell HE.out.2.1 id
        have E1 : ∀ z : KeptT w5, z.w.cell? ⟨bB, oB + kn * 4 + 1, none⟩ = some (.int .i64 y.mat) := fun z => (m.trans z.mod).cell HE.out.2.2.1 id
        have E2 : ∀ z : KeptT w5, z.w.cell? ⟨bB, oB + kn * 4 + 2, none⟩ = some (.int .i64 y.tm) := fun z => (m.trans z.mod).cell HE.out.2.2.2.1 id
        have E3 : ∀ z : KeptT w5, z.w.cell? ⟨bB, oB + kn * 4 + 3, none⟩ = some (.slice a' y.mix.length c') := fun z => (m.trans z.mod).cell HE.out.2.2.2.2 id
        clear m e0 e1 e2 e3 hf'
        refine wp_region_kept (by kernel_rfl) (by kernel_rfl) ?_
        repeat (go_big_quiet_step ((go_at_call 14; exact calls_kept _ (Hp.out _))))
        refine wpQuiet_nil ?_
        rintro w6 ⟨x6, rfl⟩
        have M6 := Lib.hid (M5.out.trans x6.mod)
        clear D0 D1 D2 D3 D4 D5 D6 E0 E1 E2 E3
        go_wp2_with fail
        go_ret2
        exact SumRes.no hlt Hno.out M6.out
      obtain ⟨t2, t0, t1⟩ := tot_fit hf
      obtain ⟨tt, htt⟩ : ∃ tt, (totL y.mix).1 = tt := ⟨_, rfl⟩
      rw [t2, htt] at Hgr
      rw [htt] at t0 t1
      obtain ⟨ms, hms⟩ : ∃ ms, missC x tt = ms := ⟨_, rfl⟩
      have hb0 := missC_bd HNq.out t0
      rw [hms] at hb0
      obtain ⟨b0, b1⟩ := hb0
      have HVq : Hid (valRow g l bs cols q = ms) := Lib.hid (by unfold valRow; rw [if_neg (by rw [Hk.out]; omega), Hk.out, Int.toNat_natCast, Hx.out, Hy.out]; unfold costB; rw [hf, if_pos rfl, htt, hms])
      have Hmi := Lib.hid fun w' => (show Calls Try.prog 19 #[.agg #[.int .i64 x.i, .int .i64 x.m, .int .i64 x.g, .int .i64 x.w, .int .i64 x.s, .int .i64 x.p, .int .i64 x.q], .int .i64 tt] w' fun e w'' => e = .returned (.tuple #[.int .i64 ms, .int .i64 0]) ∧ Mod NoBlock w' w'' by
        have := mis_any x tt w'
        rwa [misC_ok HNq.out t0 (by omega), hms] at this)
      have wt : IntKind.i64.wrap (sq + ms) = sq + ms := IntWalk.i64_in _ (by omega)
      have Hf := Lib.hid hf
      clear t2 htt hms hf t0 t1
      go_upto_region 10 with (go_at_call 32; refine Hgr.out.mono ?_; rintro e w5 ⟨rfl, m⟩)
      have M5 := Lib.hid (M.out.trans m)
      have Hp := Lib.hid fun (z : KeptT w5) => fits_any x y (c := cG) (c2 := c') (HG.out.frame (M5.out.trans z.mod)) (HMx.out.frame (m.trans z.mod))
      rw [Hf.out] at Hp
      have D0 : ∀ z : KeptT w5, z.w.cell? ⟨bL, oL + q * 7, none⟩ = some (.int .i64 x.i) := fun z => by have h9 := HcLq.out z.w (M5.out.trans z.mod); exact h9.1
      have D1 : ∀ z : KeptT w5, z.w.cell? ⟨bL, oL + q * 7 + 1, none⟩ = some (.int .i64 x.m) := fun z => by have h9 := HcLq.out z.w (M5.out.trans z.mod); exact h9.2.1
      have D2 : ∀ z : KeptT w5, z.w.cell? ⟨bL, oL + q * 7 + 2, none⟩ = some (.int .i64 x.g) := fun z => by have h9 := HcLq.out z.w (M5.out.trans z.mod); exact h9.2.2.1
      have D3 : ∀ z : KeptT w5, z.w.cell? ⟨bL, oL + q * 7 + 3, none⟩ = some (.int .i64 x.w) := fun z => by have h9 := HcLq.out z.w (M5.out.trans z.mod); exact h9.2.2.2.1
      have D4 : ∀ z : KeptT w5, z.w.cell? ⟨bL, oL + q * 7 + 4, none⟩ = some (.int .i64 x.s) := fun z => by have h9 := HcLq.out z.w (M5.out.trans z.mod); exact h9.2.2.2.2.1
      have D5 : ∀ z : KeptT w5, z.w.cell? ⟨bL, oL + q * 7 + 5, none⟩ = some (.int .i64 x.p) := fun z => by have h9 := HcLq.out z.w (M5.out.trans z.mod); exact h9.2.2.2.2.2.1
      have D6 : ∀ z : KeptT w5, z.w.cell? ⟨bL, oL + q * 7 + 6, none⟩ = some (.int .i64 x.q) := fun z => by have h9 := HcLq.out z.w (M5.out.trans z.mod); exact h9.2.2.2.2.2.2
      have E0 : ∀ z : KeptT w5, z.w.cell? ⟨bB, oB + kn * 4, none⟩ = some (.int .i64 y.id) := fun z => (m.trans z.mod).cell HE.out.2.1 id
      have E1 : ∀ z : KeptT w5, z.w.cell? ⟨bB, oB + kn * 4 + 1, none⟩ = some (.int .i64 y.mat) := fun z => (m.trans z.mod).cell HE.out.2.2.1 id
      have E2 : ∀ z : KeptT w5, z.w.cell? ⟨bB, oB + kn * 4 + 2, none⟩ = some (.int .i64 y.tm) := fun z => (m.trans z.mod).cell HE.out.2.2.2.1 id
      have E3 : ∀ z : KeptT w5, z.w.cell? ⟨bB, oB + kn * 4 + 3, none⟩ = some (.slice a' y.mix.length c') := fun z => (m.trans z.mod).cell HE.out.2.2.2.2 id
      clear m e0 e1 e2 e3 kc
      refine wp_region_kept (by kernel_rfl) (by kernel_rfl) ?_
      repeat (go_big_quiet_step ((go_at_call 14; exact calls_kept _ (Hp.out _))))
      refine wpQuiet_nil ?_
      rintro w6 ⟨x6, rfl⟩
      have M6 := Lib.hid (M5.out.trans x6.mod)
      clear D0 D1 D2 D3 D4 D5 D6 E0 E1 E2 E3
      generalize x6.w = w6 at M6 ⊢
      go_wp2_with fail
      go_loopw [71] (fun jv wr => ∃ j : Nat, j ≤ q ∧ jv = .int .i64 j ∧ (∀ j', j' < j → ix cols j' ≠ kn) ∧ Hid (wr = w6)) (fun jv _ => q - (intOf jv).toNat)
      case atStart => exact ⟨0, by omega, rfl, fun j' hj => absurd hj (Nat.not_lt_zero j'), Lib.hid rfl⟩
      case round =>
        obtain ⟨j, hj, rfl, hnd, ⟨rfl⟩⟩ := hrel
        have HD := Lib.hid hnd
        clear hnd
        by_cases hjq : j < q
        · have j1 : (j : Int) < (q : Int) := by omega
          have v1 := M6.out.cell (HcC.out j (by omega)) id
          obtain ⟨z, hz⟩ : ∃ z, ix cols j = z := ⟨_, rfl⟩
          rw [hz] at v1
          have Hz := Lib.hid hz
          clear hz
          by_cases he : z = kn
          · have heb : (z == (kn : Int)) = true := by rw [he]; simp
            have Hno : Hid (¬ OkRow g l bs cols q) := Lib.hid fun h => by
              rcases h with h | ⟨_, _, _, h⟩
              · rw [Hk.out] at h; omega
              · exact h j hjq (by rw [Hz.out, Hk.out, he])
            clear he
            go_wp2_with fail
            go_ret2
            exact SumRes.no hlt Hno.out M6.out
          · have heb : (z == (kn : Int)) = false := beq_eq_false_iff_ne.2 he
            have He := Lib.hid he
            clear he
            go_wp2_with fail
            exact ⟨⟨j + 1, by omega, by go_num, fun j' hj' => by
              by_cases e : j' = j
              · rw [e, Hz.out]; exact He.out
              · exact HD.out j' (by omega), Lib.hid trivial⟩, by simp [intOf]; omega⟩
        · obtain rfl : j = q := by omega
          have HOk : Hid (OkRow g l bs cols j) := Lib.hid (.inr ⟨by rw [Hk.out]; omega, by rw [Hk.out]; exact kb', by rw [Hk.out, Int.toNat_natCast, Hx.out, Hy.out]; exact Hf.out, fun j' hj' => by rw [Hk.out]; exact HD.out j' hj'⟩)
          obtain ⟨d0, d1, d2, d3, d4, d5, d6⟩ := HcLq.out w6 M6.out
          go_upto_region 20 with (go_at_call 19; refine (Hmi.out _).mono ?_; rintro e w9 ⟨rfl, m⟩)
          have M9 := Lib.hid (M6.out.trans m)
          clear m d0 d1 d2 d3 d4 d5 d6
          go_wp2_with fail
          exact ⟨⟨j + 1, by omega, by go_num, fun i hi => by
            by_cases e : i = j
            · rw [e]; exact HOk.out
            · exact HK.out i (by omega), by
              show Value.int IntKind.i64 _ = .int .i64 (sumR j (valRow g l bs cols) + valRow g l bs cols j)
              rw [HSq.out, HVq.out], M9.out⟩, by simp [intOf]; omega⟩
    · obtain rfl : q = l.length := by omega
      have Hy : Hid (∀ i, i < l.length → OkRow g l bs cols i) := Lib.hid HK.out
      clear HK hok
      go_wp2_with fail
      go_ret2
      exact ⟨true, _, rfl, M.out, fun _ => ⟨Hy.out, rfl⟩, fun _ => rfl⟩

end Go.Proofs.Ytnacoglfhhenhaa
