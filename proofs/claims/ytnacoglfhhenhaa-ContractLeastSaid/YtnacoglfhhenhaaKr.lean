/-
  contract: the law ContractLeast walked.
-/
import Derived.Test.YtnacoglfhhenhaaKm
import Derived.Test.YtnacoglfhhenhaaKq
import Derived.Test.YtnacoglfhhenhaaKgc
import Derived.Test.YtnacoglfhhenhaaCx3
set_option linter.unusedVariables false
set_option linter.unusedSimpArgs false
namespace Go.Proofs.Ytnacoglfhhenhaa
open Go.RowKit

section
variable {g : List (Int × Int)} {l : List Ctr} {bs : List Bal} {cols : List Int}
theorem costs_ix {i j : Nat} (hi : i < l.length) (hj : j < bs.length) : ix (rx (costsL g l bs) i) j = costB g (cx l i) (bx bs j) := by
  unfold costsL
  rw [rowsI_rx hi, rowI_ix hj]
  rfl
theorem skip_ix {i : Nat} (hi : i < l.length) : ix (skipL l) i = missC (cx l i) 0 := by
  unfold skipL
  rw [rowI_ix hi]
  rfl
theorem costB_no {x : Ctr} {y : Bal} (hN : NumC x) : costB g x y = -1 ↔ fitB x g y = false := by
  unfold costB
  cases hf : fitB x g y
  · simp
  · have := missC_bd hN (tot_fit hf).2.1
    rw [if_pos rfl]
    constructor
    · intro h; omega
    · intro h; cases h
theorem okRow_errV {i : Nat} (hN : NumC (cx l i)) (hi : i < l.length) : OkRow g l bs cols i ↔ errV bs.length (costsL g l bs) cols i = 0 := by
  constructor
  · rintro (h | ⟨h0, h1, h2, h3⟩)
    · exact errV_none h
    · obtain ⟨x, hx⟩ : ∃ x : Nat, ix cols i = x := ⟨(ix cols i).toNat, by omega⟩
      rw [hx] at h1 h2 h3
      rw [Int.toNat_natCast] at h2
      refine errV_good hx (by omega) ?_ ?_
      · cases ht : tk cols i x
        · rfl
        · obtain ⟨j, hj, e⟩ := tk_iff.1 ht
          exact absurd e (h3 j hj)
      · rw [costs_ix hi (by omega)]
        intro e
        rw [(costB_no hN).1 e] at h2
        cases h2
  · intro h
    unfold errV at h
    by_cases g1 : ix cols i < -1 ∨ (bs.length : Int) ≤ ix cols i
    · rw [if_pos g1] at h; cases h
    rw [if_neg g1] at h
    by_cases g2 : ix cols i = -1
    · exact .inl g2
    rw [if_neg g2] at h
    cases ht : tk cols i (ix cols i)
    · rw [ht, if_neg (by decide)] at h
      by_cases g3 : ix (rx (costsL g l bs) i) (ix cols i).toNat = -1
      · rw [if_pos g3] at h; cases h
      rw [costs_ix hi (by omega)] at g3
      refine .inr ⟨by omega, by omega, ?_, fun j hj e => ?_⟩
      · cases hf : fitB (cx l i) g (bx bs (ix cols i).toNat)
        · exact absurd ((costB_no hN).2 hf) g3
        · rfl
      · rw [tk_iff.2 ⟨j, hj, e⟩] at ht; cases ht
    · rw [ht, if_pos rfl] at h; cases h
theorem valRow_costV {i : Nat} (hi : i < l.length) (h : OkRow g l bs cols i) : valRow g l bs cols i = costV (costsL g l bs) (skipL l) cols i := by
  unfold valRow costV
  rcases h with h | ⟨h0, h1, _⟩
  · rw [if_pos h, if_pos h, skip_ix hi]
  · rw [if_neg (by omega), if_neg (by omega), costs_ix hi (by omega)]

/-- The assignment is valid, its sum is what is returned, and no other one has less. -/
theorem asg_least {t : Int} (he : errA g l bs = 0) (h : AsgIs g l bs cols t) :
    cols.length = l.length ∧ l.length ≤ 16 ∧ (∀ i, i < l.length → NumC (cx l i)) ∧ (∀ i, i < l.length → OkRow g l bs cols i) ∧ sumR l.length (valRow g l bs cols) = t ∧
      ∀ cols' : List Int, (∀ i, i < l.length → OkRow g l bs cols' i) → t ≤ sumR l.length (valRow g l bs cols') := by
  rcases h with ⟨h, _⟩ | ⟨_, wf, hF, hce⟩
  · exact absurd he h
  unfold errA at he
  by_cases g1 : chkG g = 0
  case neg => rw [if_pos g1] at he; exact absurd he g1
  rw [if_neg (by rw [g1]; decide)] at he
  by_cases g2 : chkC l g.length = 0
  case neg => rw [if_pos g2] at he; exact absurd he g2
  rw [if_neg (by rw [g2]; decide)] at he
  obtain ⟨f1, f2, _⟩ := chkC_facts g2
  have hN : ∀ i, i < l.length → NumC (cx l i) := fun i hi => (ctrE_ok (f2 i hi)).1
  have hp := probOk he
  rw [costsL_length] at hp
  by_cases h0 : l.length = 0
  · have hs : ∀ f, sumR l.length f = 0 := fun f => by rw [h0]; rfl
    have ht := hF.cost
    rw [show cost _ l.length wf = 0 from hs _] at ht
    refine ⟨by rw [hce, rowI_length], f1, hN, fun i hi => by omega, by rw [hs]; exact ht, fun c _ => by rw [hs]; omega⟩
  have hk : (rx (costsL g l bs) 0).length = bs.length := by unfold costsL; rw [rowsI_rx (by omega), rowI_length]
  rw [hk] at hF hce hp
  have hv := hF.val hp he (costsL_length g l bs) hk
  rw [← hce] at hv
  obtain ⟨_, p2, p3, p4⟩ := valM_prob (C := costsL g l bs) (sk := skipL l) (cols := cols) (by rw [hv])
  rw [costsL_length] at p2 p3 p4
  rw [hk] at p3
  have hok : ∀ i, i < l.length → OkRow g l bs cols i := fun i hi => (okRow_errV (hN i hi) hi).2 (p3 i hi)
  refine ⟨by rw [hce, rowI_length], f1, hN, hok, ?_, fun c hc => ?_⟩
  · rw [hv] at p4
    rw [sumR_congr fun i hi => valRow_costV hi (hok i hi)]
    exact p4.symm
  · rw [sumR_congr fun i hi => valRow_costV hi (hc i hi)]
    exact (hF.best hp fun i hi => (okRow_errV (hN i hi) hi).1 (hc i hi)).1
end

set_option maxRecDepth 100000 in
set_option maxHeartbeats 2000000 in
theorem contractLeast_fin (a : Option Addr) (c : Nat) (l : List Ctr) {w : World} (hx : Ctrs Any w a l) (hc : l.length ≤ c) (aG : Option Addr) (cG : Nat) (g : List (Int × Int)) (hg : Grs Any w aG g) (_ : g.length ≤ cG) (aB : Option Addr) (cB : Nat) (bs : List Bal) (hb : Bals Any w aB bs) (_ : bs.length ≤ cB)
    (aO : Option Addr) (cO : Nat) (ot : List Int) (ho : KInts .u8 w aO ot) (hot : ∀ x ∈ ot, (Lit.int .u8 x).wf = true) (_ : World) :
    Calls Try.prog 7 #[.slice a l.length c, .slice aG g.length cG, .slice aB bs.length cB, .slice aO ot.length cO] w fun e w' => e = .returned (.bool true) ∧ Mod NoBlock w w' := by
  have Hf := Lib.hid (few_any (a := a) (c := c) (aG := aG) (cG := cG) (cB := cB) hx.1 hg.1 hb)
  have HL := Lib.hid hx
  have HG := Lib.hid hg
  have HB := Lib.hid hb
  have Hc := Lib.hid hc
  have HOt := Lib.hid ho
  have hlo : ot.length ≤ maxLen := ho.1
  simp only [maxLen] at hlo
  have HOb : Hid (∀ k, k < ot.length → 0 ≤ ix ot k ∧ ix ot k ≤ 255) := Lib.hid fun k hk => by
    have h9 := hot (ix ot k) (by rw [ix_eq hk]; exact List.getElem_mem hk)
    simpa [Lit.wf, IntKind.min, IntKind.max, IntKind.signed, IntKind.bits] using h9
  clear hx hg hb hc ho hot
  go_enter Try.func7, Try.ntmps7
  go_wp2_with fail
  refine Hf.out.mono ?_; rintro e w1 ⟨r, rfl, hr, m⟩
  have M1 := Lib.hid m
  clear m Hf
  cases r
  · clear hr
    go_wp2_with fail
    refine (awakeK_any _).mono ?_; rintro e w9 ⟨rfl, m⟩
    have M := Lib.hid (M1.out.trans m)
    clear m
    go_wp2_with fail
    go_ret
    exact ⟨rfl, M.out⟩
  have hfew := hr.1 rfl
  have hb30 : bs.length ≤ 30 := hfew.2.2.1
  have Ha := Lib.hid (assign_cap (cG := cG) (cB := cB) (HL.out.frame M1.out) Hc.out (HG.out.frame M1.out) (HB.out.frame M1.out) (by omega))
  clear hr hfew
  go_upto_region 4 with (go_at_call 16; refine Ha.out.mono ?_; rintro e w2 ⟨aC, cC, cols, t, rfl, m, hC, hI, hcc⟩)
  have M2 := Lib.hid (M1.out.trans m)
  have HC := Lib.hid hC
  clear m hC Ha
  by_cases he : errA g l bs = 0
  case neg =>
    have heb : (errA g l bs != 0) = true := bne_iff_ne.2 he
    rcases hI with ⟨_, rfl, rfl⟩ | ⟨h9, _⟩
    case inr => exact absurd h9 he
    generalize errA g l bs = ee at heb ⊢
    clear he
    go_wp2_with fail
    refine (awakeK_any _).mono ?_; rintro e w9 ⟨rfl, m⟩
    have M := Lib.hid (M2.out.trans m)
    clear m
    go_wp2_with fail
    go_ret
    exact ⟨rfl, M.out⟩
  obtain ⟨hlen, l16, hN, hok, hsum, hleast⟩ := asg_least he hI
  have Hs1 := Lib.hid (sum_any (c := c) (cG := cG) (cB := cB) (HL.out.frame M2.out) (HG.out.frame M2.out) (HB.out.frame M2.out) HC.out hN hlen hcc l16 (by omega))
  have HN := Lib.hid hN
  have HOk := Lib.hid hok
  have HSum := Lib.hid hsum
  have HLeast := Lib.hid hleast
  rw [he, hlen]
  clear hI hlen hN hok hsum hleast he hcc HC
  go_upto_region 7 with (go_at_call 23; refine Hs1.out.mono ?_; rintro e w3 ⟨r, tot, rfl, m, h1, h2⟩)
  obtain rfl := h2 HOk.out
  obtain ⟨_, htot⟩ := h1 rfl
  rw [HSum.out] at htot
  subst htot
  have M3 := Lib.hid (M2.out.trans m)
  clear m h1 h2 Hs1 HOk HSum
  obtain ⟨n, hn⟩ : ∃ n, l.length = n := ⟨_, rfl⟩
  obtain ⟨nb, hnb⟩ : ∃ nb, bs.length = nb := ⟨_, rfl⟩
  have Hn := Lib.hid hn
  have Hnb := Lib.hid hnb
  rw [hn] at l16 ⊢
  rw [hnb] at hb30 ⊢
  clear hn hnb
  have hmk := run_make_row' (P := Try.prog) 30 3 (.int .i64 0) 8 Try.underlying30 infoIntM rfl .i64 .i64 n (by omega) (by omega)
  have O4 := Lib.hid (own_made w3 n (by simp only [maxLen]; omega))
  have M4 := Lib.hid ((Mod.refl NoBlock w3).alloc (.cells (madeCells #[.int .i64 0] n) 3))
  go_upto_region 10 with fail
  generalize w3.alloc (.cells (madeCells #[.int .i64 0] n) 3) = w4 at O4 M4 ⊢
  obtain ⟨gy, hgy⟩ : ∃ gy, w3.heap.size = gy := ⟨_, rfl⟩
  rw [hgy] at O4 ⊢
  have Hgy := Lib.hid hgy
  clear hgy hmk
  go_wp2_with fail
  go_loopw [64] (fun iv wr => ∃ (i : Nat) (Y : Nat → Int), i ≤ n ∧ iv = .int .i64 i ∧ Mod NoBlock w3 wr ∧ Own wr gy 3 (some ⟨gy, 0, none⟩) n (rowV n Y)) (fun iv _ => n - (intOf iv).toNat)
  case atStart => exact ⟨0, _, by omega, rfl, M4.out, O4.out⟩
  case round =>
    clear O4 M4
    clear w4
    obtain ⟨i, Y, hi, rfl, hm, hO⟩ := hrel
    have M5 := Lib.hid hm
    have O5 := Lib.hid hO
    clear hm hO
    obtain ⟨wo, rfl⟩ : ∃ wo : World, wo = wr := ⟨_, rfl⟩
    by_cases hlt : i < n
    · have i1 : (i : Int) < (n : Int) := by omega
      obtain ⟨c0, f0⟩ := O5.out.cellAt hlt
      have O6 := Lib.hid (O5.out.set (k := i) (v := -1) (F' := fun p => if p = i then -1 else Y p) (fun _ => by rw [if_pos rfl]) (fun p _ hp => by rw [if_neg hp]))
      have M6 := Lib.hid (M5.out.setCell (p := ⟨gy, i, none⟩) (.inr (by have := Hgy.out; show w3.heap.size ≤ gy; omega)) (.int .i64 (-1)))
      go_upto_region 14 with fail
      clear c0 f0 O5 M5
      generalize wo.setCell ⟨gy, i, none⟩ (.int .i64 (-1)) = w6 at O6 M6 ⊢
      by_cases hio : i < ot.length
      · have io1 : (i : Int) < (ot.length : Int) := by omega
        obtain ⟨bO, oO, hao, hco⟩ := HOt.out.2 (by intro e; rw [e] at hio; simp at hio)
        subst hao
        have v1 := M6.out.cell (M3.out.cell (hco i hio) id) id
        have hvb := HOb.out i hio
        generalize ix ot i = v at v1 hvb
        obtain ⟨v0, v9⟩ := hvb
        obtain ⟨c0, f0⟩ := O6.out.cellAt hlt
        have wv : IntKind.i64.wrap v = v := IntWalk.i64_in _ (by omega)
        have wb : IntKind.i64.wrap ((nb : Int) + 1) = (nb : Int) + 1 := IntWalk.i64_in _ (by omega)
        have nbp : 0 < (nb : Int) + 1 := by omega
        have nbz : ((nb : Int) + 1 == 0) = false := beq_eq_false_iff_ne.2 (by omega)
        have r0 : 0 ≤ v % ((nb : Int) + 1) := Int.emod_nonneg _ (by omega)
        have r1 : v % ((nb : Int) + 1) < (nb : Int) + 1 := Int.emod_lt_of_pos _ (by omega)
        clear hco
        go_wp2_with fail
        exact ⟨⟨i + 1, _, by omega, by go_num, M6.out.setCell (p := ⟨gy, i, none⟩) (.inr (by have := Hgy.out; show w3.heap.size ≤ gy; omega)) _, O6.out.set (k := i) (v := v % ((nb : Int) + 1) - 1) (F' := fun p => if p = i then v % ((nb : Int) + 1) - 1 else if p = i then -1 else Y p) (fun _ => by rw [if_pos rfl]) (fun p _ hp => (if_neg hp).symm)⟩, by simp [intOf]; omega⟩
      · go_wp2_with fail
        exact ⟨⟨i + 1, _, by omega, by go_num, M6.out, O6.out⟩, by simp [intOf]; omega⟩
    · obtain rfl : n = i := by omega
      clear hlt hi
      have hci : Ints (fun b => gy ≤ b) wo (some ⟨gy, 0, none⟩) (rowI n Y) := by
        have h9 := O5.out
        rw [rowV_map] at h9
        exact h9.ints (fun b hb _ => hb) (by rw [rowI_length]; simp only [maxLen]; omega)
      have hs2 := sum_any (c := c) (cG := cG) (cB := cB) (cC := n) (HL.out.frame (M3.out.trans M5.out)) (HG.out.frame (M3.out.trans M5.out)) (HB.out.frame (M3.out.trans M5.out)) hci HN.out (by rw [rowI_length, Hn.out]) (by rw [rowI_length]; exact Nat.le_refl _) (by rw [Hn.out]; omega) (by rw [Hnb.out]; omega)
      rw [Hn.out, Hnb.out] at hs2
      have Hs2 := Lib.hid hs2
      have MW := Lib.hid (M3.out.trans M5.out)
      clear hci hs2 O5 M5
      go_upto_region 18 with (go_at_call 23; refine Hs2.out.mono ?_; rintro e w7 ⟨r2, tot2, rfl, m, h1, h2⟩)
      have M7 := Lib.hid (MW.out.trans m)
      clear m h2 Hs2
      cases r2
      · clear h1
        go_wp2_with fail
        refine (awakeK_any _).mono ?_; rintro e w9 ⟨rfl, m⟩
        have M := Lib.hid (M7.out.trans m)
        clear m
        go_wp2_with fail
        go_ret
        exact ⟨rfl, M.out⟩
      · obtain ⟨g1, g2⟩ := h1 rfl
        have hle : tot ≤ tot2 := by rw [g2]; exact HLeast.out _ g1
        clear h1 g1 g2
        go_wp2_with fail
        refine (awakeK_any _).mono ?_; rintro e w9 ⟨rfl, m⟩
        have M := Lib.hid (M7.out.trans m)
        clear m
        go_wp2_with fail
        go_ret
        exact ⟨rfl, M.out⟩

end Go.Proofs.Ytnacoglfhhenhaa
