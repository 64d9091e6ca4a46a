/-
  match: the reference's Solve on a problem without fault that has rows.
-/
import Derived.Test.YtnacoglfhhenhaaMv
set_option linter.unusedVariables false
set_option linter.unusedSimpArgs false
namespace Go.Proofs.Ytnacoglfhhenhaa
open Go.RowKit

/-- The search of a row's column: none yet, or found. -/
def ColAt (T : Nat → Nat → Int) (W wr : World) (aC : Option Addr) (n k : Nat) (t : Int) (wf : Nat → Nat) (q j : Nat) (col : Value) (g : Nat) : Prop :=
  (col = .int .i64 (-1) ∧ (∀ j', j' < j → ¬ Good T n k t (upd wf q j') (q + 1)) ∧ RTab W wr aC n (k + n) (restr T wf q) g) ∨
  (∃ j0 : Nat, j = j0 + 1 ∧ j0 < k ∧ col = .int .i64 j0 ∧ Good T n k t (upd wf q j0) (q + 1) ∧ (∀ j', j' < j0 → ¬ Good T n k t (upd wf q j') (q + 1)) ∧ RTab W wr aC n (k + n) (restr T (upd wf q j0) (q + 1)) g)

theorem RTab.append {W wr w' : World} {aC a' : Option Addr} {n K : Nat} {T : Nat → Nat → Int} {g : Nat} (h : RTab W wr aC n K T g)
    (hb : ∀ b, b < wr.heap.size → b ≠ W.heap.size → some b ≠ blockOf aC → w'.heap[b]? = wr.heap[b]? ∧ some b ≠ blockOf a') : RTab W w' a' n K T g := by
  obtain ⟨ra, ro, rc, h⟩ := h
  refine ⟨ra, ro, rc, h.blocks fun b hd => ?_⟩
  obtain ⟨h5, h6⟩ := hb b hd.1 hd.2.1 hd.2.2
  refine ⟨h5, ?_, hd.2.1, h6⟩
  refine Nat.lt_of_not_le fun hle => ?_
  rw [Array.getElem?_eq_none hle] at h5
  have := Array.getElem?_eq_none_iff.1 h5.symm
  omega
theorem RTab.one {D : Nat → Prop} {W w0 wr : World} {aC : Option Addr} {cC nC n K : Nat} {T : Nat → Nat → Int} {g : Nat} {ra ro rc : Nat → Nat} {F : Nat → Int} (hK : 0 < n → 0 < K) (hW : W.heap.size < w0.heap.size) (ho : Own w0 (W.heap.size + 1) 3 aC cC (rowV nC F))
    (h : Tab (fun b => (b < w0.heap.size ∧ b ≠ W.heap.size ∧ some b ≠ blockOf aC) ∨ w0.heap.size ≤ b) wr g 0 n K T ra ro rc) : RTab W wr aC n K T g :=
  ⟨ra, ro, rc, (h.both hK).congr (fun _ _ _ _ => rfl) fun b hb => by
    refine ⟨hb.2, ?_⟩
    rcases hb.1 with h9 | h9
    · exact h9.2
    · exact ⟨by omega, fun e => by have := (ho.lt e.symm).2; omega⟩⟩
theorem RTab.congr {W wr : World} {aC : Option Addr} {n K : Nat} {T T' : Nat → Nat → Int} {g : Nat} (h : RTab W wr aC n K T g) (hT : ∀ r, r < n → ∀ j, j < K → T r j = T' r j) : RTab W wr aC n K T' g := by
  obtain ⟨ra, ro, rc, h⟩ := h
  exact ⟨ra, ro, rc, h.congr hT fun _ h => h⟩

set_option maxRecDepth 100000 in
set_option maxHeartbeats 40000000 in
theorem refSolve_ok {D E : Nat → Prop} {w : World} {a b : Option Addr} {c d n k : Nat} {C : List (List Int)} {sk : List Int} (h : Mixes D w a C) (hs : Ints E w b sk) (hok : chkM C sk = 0) (hn : C.length = n) (hk : (rx C 0).length = k) (hn0 : 0 < n) :
    Calls Try.prog 36 #[.slice a n c, .slice b n d] w (RSolveRes C sk n k w) := by
  have hpr := probOk hok
  rw [hn, hk] at hpr
  have m0 := (Mod.refl NoBlock w).alloc (.cells #[.slice none 0 0, .int .i64 0, .slice none 0 0, .slice none 0 0] 61)
  have hb0 := rowIs_new w #[.slice none 0 0, .int .i64 0, .slice none 0 0, .slice none 0 0] 61
  have Hb0 := Lib.hid hb0
  have M0 := Lib.hid m0
  have HC0 := Lib.hid h
  have HS0 := Lib.hid hs
  have HP := Lib.hid hpr
  have Hn := Lib.hid hn
  have n24 := hpr.n24
  have k24 := hpr.k24
  have hch := refCheck_any (c := c) (d := d) (h.frame m0) (hs.frame m0)
  rw [hn, hpr.len, hok] at hch
  have Hch := Lib.hid hch
  have Hel := Lib.hid elemInt1
  clear h hs m0 hb0 hok hpr hn hk hch
  go_enter Try.func36, Try.ntmps36
  go_upto_region 1 with fail
  generalize w.alloc (.cells #[.slice none 0 0, .int .i64 0, .slice none 0 0, .slice none 0 0] 61) = w0 at M0 Hb0 Hch ⊢
  obtain ⟨S0, hS0⟩ : ∃ S0, w.heap.size = S0 := ⟨_, rfl⟩
  rw [hS0] at Hb0 ⊢
  have HS9 := Lib.hid hS0
  clear hS0
  go_upto_region 4 with (go_at_call 50; refine Hch.out.mono ?_; rintro e w1 ⟨rfl, hd1⟩)
  have md := (Mod.refl NoBlock w0).drawn hd1
  have M1 := Lib.hid (M0.out.trans md)
  have Hb1 := Lib.hid (Hb0.out.of_block (md.block _ Hb0.out.lt id))
  clear hd1 md Hch M0 Hb0
  have Htab := Lib.hid (refTable_any (c := c) (d := d) (HC0.out.frame M1.out) (HS0.out.frame M1.out) HP.out)
  go_upto_region 5 with (go_at_call 51; refine Htab.out.mono ?_; rintro e w2 ⟨a1, c1, ra, ro, rc, rfl, hgt⟩)
  obtain ⟨gw, rfl, htab⟩ := hgt.tab hn0
  have hK0 : 0 < n → 0 < k + n := fun h => by omega
  have Ht2 := Lib.hid (htab.size hK0)
  have M2 := Lib.hid (M1.out.trans hgt.mod)
  have Hb2 := Lib.hid (Hb1.out.of_block (hgt.mod.block _ Hb1.out.lt id))
  have HW := Lib.hid (wide_ok HP.out)
  have Hok := Lib.hid (show TabOk (tabM C sk k) n (k + n) from HW.out.le)
  have Hlst := Lib.hid (least_any (ca := c1) (T := tabM C sk k) Ht2.out Hok.out (by omega) (by omega) hn0)
  clear hgt htab Htab M1 Hb1
  go_upto_region 6 with (go_at_call 52; refine Hlst.out.mono ?_; rintro e w6 ⟨t, aU, cU, aV, cV, rfl, hcV, hLe, m6⟩)
  have HLe := Lib.hid hLe
  have M6 := Lib.hid (M2.out.trans m6)
  have Hb6 := Lib.hid (Hb2.out.of_block (m6.block _ Hb2.out.lt id))
  have Ht6 := Lib.hid (Ht2.out.frame m6 (fun _ _ => id))
  have Hs6 := Lib.hid m6.size
  clear hLe m6 Hlst M2 Hb2 Ht2
  have kc : (k : Int) ≤ (cV : Int) := by omega
  have kc2 : k ≤ cV := by omega
  have hms : MR w6 (w6.alloc (.cells #[.slice none 0 0, .int .i64 t, .slice aU n cU, .slice none 0 0] 61)) none 0 0 t aU n cU none 0 0 (fun _ => 0) :=
    ⟨(Mod.refl _ w6).alloc _, rowIs_new w6 _ _, Own.nil _ _ _⟩
  have H0 := Lib.hid hms
  clear hms
  go_upto_region 7 with fail
  generalize w6.alloc (.cells #[.slice none 0 0, .int .i64 t, .slice aU n cU, .slice none 0 0] 61) = w8 at H0 ⊢
  obtain ⟨b1, o1, a0, c0', rfl, -, hc0, -⟩ := (HC0.out.frame (M6.out.trans H0.out.mod)).row (k := 0) (by rw [Hn.out]; exact hn0)
  rw [HP.out.rect.2 0 hn0, Nat.add_zero] at hc0
  have n0' : (0 : Int) < (n : Int) := by omega
  have f3 := H0.out.box.frozen 3
  have e3 := H0.out.b3
  go_upto_region 11 with fail
  clear f3 e3 hc0
  have hm9 : MR w6 (w8.setCell ⟨w6.heap.size, 3, none⟩ (.slice aV k cV)) none 0 0 t aU n cU aV k cV (fun _ => 0) :=
    ⟨H0.out.mod.setCell (p := ⟨w6.heap.size, 3, none⟩) (.inr (Nat.le_refl _)) _, (H0.out.box.set 3 _).congr (fun i hi => by
      rcases (by omega : i = 0 ∨ i = 1 ∨ i = 2 ∨ i = 3) with rfl | rfl | rfl | rfl <;> rfl), Own.nil _ _ _⟩
  have H9 := Lib.hid hm9
  have H9M : Hid (Mod (fun b => b = w6.heap.size) w8 (w8.setCell ⟨w6.heap.size, 3, none⟩ (.slice aV k cV))) := Lib.hid ((Mod.refl _ w8).set1 3 _)
  have Ht9 : Hid (RTab w6 (w8.setCell ⟨w6.heap.size, 3, none⟩ (.slice aV k cV)) none n (k + n) (restr (tabM C sk k) (fun _ => 0) 0) gw) := Lib.hid
    ⟨ra, ro, rc, ((Ht6.out.frame H9.out.mod (fun _ hb => id)).congr (fun r _ j _ => (restr_zero _ _ r j).symm) (fun b hb => ⟨by have := H9.out.mod.size; have := Hs6.out; omega, by have := Hs6.out; omega, by intro e; cases e⟩))⟩
  generalize w8.setCell ⟨w6.heap.size, 3, none⟩ (.slice aV k cV) = w9 at H9 Ht9 ⊢
  clear hm9 H9M H0 Ht6
  clear w8
  have Hrow : Hid (∀ q, q < n → ∃ a2 c2 b3 o3, w6.cell? ⟨b1, o1 + q, none⟩ = some (.slice a2 k c2) ∧ (0 < k → a2 = some ⟨b3, o3, none⟩) ∧ ∀ j, j < k → w6.cell? ⟨b3, o3 + j, none⟩ = some (.int .i64 (ix (rx C q) j))) := Lib.hid fun q hq => by
    obtain ⟨b9, o9, a2, c2, e9, _, hc, hI⟩ := (HC0.out.frame M6.out).row (k := q) (by rw [Hn.out]; exact hq)
    simp only [Option.some.injEq, Addr.mk.injEq, and_true] at e9
    obtain ⟨rfl, rfl⟩ := e9
    rw [HP.out.rect.2 q hq] at hc
    by_cases hk0 : 0 < k
    · obtain ⟨_, b3, o3, ha3, hc3⟩ := hI.open
      exact ⟨a2, c2, b3, o3, hc, fun _ => ha3 (by intro e; have h9 := HP.out.rect.2 q hq; rw [e] at h9; simp at h9; omega), fun j hj => hc3 j (by rw [HP.out.rect.2 q hq]; exact hj)⟩
    · exact ⟨a2, c2, 0, 0, hc, fun h => absurd h hk0, fun j hj => absurd hj (by omega)⟩
  have HbS := Lib.hid (fun (w' : World) (m : Mod NoBlock w6 w') => Hb6.out.of_block (m.block _ Hb6.out.lt id))
  go_wp2_with fail
  go_loopw [7, 13] (fun wd i wr => ∃ (q : Nat) (wf : Nat → Nat) (aC : Option Addr) (cC gz cz : Nat), q ≤ n ∧ i = .int .i64 q ∧ wd = .slice (some ⟨gz, 0, none⟩) n cz ∧ Upto (tabM C sk k) n k t wf q ∧
    MR w6 wr aC cC q t aU n cU aV k cV (colZ k wf) ∧ RTab w6 wr aC n (k + n) (restr (tabM C sk k) wf q) gz) (fun _ i _ => n - (intOf i).toNat)
  case atStart => exact ⟨0, fun _ => 0, none, 0, gw, c1, by omega, rfl, rfl, Upto.zero HLe.out _, H9.out.congrC (fun j hj => absurd hj (Nat.not_lt_zero j)), Ht9.out⟩
  case round =>
    clear H9 Ht9
    clear w9
    obtain ⟨q, wf, aC, cC, gz, cz, hq9, rfl, rfl, hup, hms, htab⟩ := hrel
    have H := Lib.hid hms
    have HT := Lib.hid htab
    have HUp := Lib.hid hup
    clear hms htab hup
    obtain ⟨wo, rfl⟩ : ∃ wo : World, wo = wr := ⟨_, rfl⟩
    by_cases hlt : q < n
    · have q1 : (q : Int) < (n : Int) := by omega
      go_wp2_with fail
      go_loopw [7, 14, 15] (fun wd cl jv wr => ∃ (j gy cy : Nat), j ≤ k ∧ jv = .int .i64 j ∧ wd = .slice (some ⟨gy, 0, none⟩) n cy ∧
        MR w6 wr aC cC q t aU n cU aV k cV (colZ k wf) ∧ ColAt (tabM C sk k) w6 wr aC n k t wf q j cl gy) (fun _ _ jv _ => k - (intOf jv).toNat)
      case atStart => exact ⟨0, gz, cz, by omega, rfl, rfl, H.out, .inl ⟨rfl, fun j' hj => absurd hj (Nat.not_lt_zero j'), HT.out⟩⟩
      case round =>
        clear H HT
        clear wo
        obtain ⟨j, gz, cz, hj9, rfl, rfl, hms, hcol⟩ := hrel
        have H := Lib.hid hms
        clear hms
        obtain ⟨wo, rfl⟩ : ∃ wo : World, wo = wr := ⟨_, rfl⟩
        have hsz := H.out.lt
        rcases hcol with ⟨rfl, hno, hrt⟩ | ⟨j0, hj0, hj0k, rfl, hgd, hno, hrt⟩
        · have HNo := Lib.hid hno
          have HT := Lib.hid hrt
          clear hno hrt
          by_cases hlt2 : j < k
          · have j1 : (j : Int) < (k : Int) := by omega
            obtain ⟨a2, c2, b3, o3, hc1, hb3, hcc⟩ := Hrow.out q hlt
            obtain rfl := hb3 (by omega)
            have d1 := H.out.mod.cell hc1 id
            have d2 := H.out.mod.cell (hcc j hlt2) id
            have hx := HP.out.cost q hlt j hlt2
            have HTq : Hid (tabM C sk k q j = if ix (rx C q) j = -1 then far else ix (rx C q) j) := Lib.hid (by unfold tabM wideT; rw [if_pos hlt2])
            have HNg := Lib.hid (fun h => not_good_far (w := wf) (j := j) HW.out HLe.out hlt h)
            clear hcc hc1 hb3
            generalize ix (rx C q) j = x at d2 hx HTq
            obtain ⟨x0, x1⟩ := hx
            by_cases hx1 : x < 0
            · have HN2 : Hid (¬ Good (tabM C sk k) n k t (upd wf q j) (q + 1)) := Lib.hid (HNg.out (by show tabM C sk k q j = far; rw [HTq.out, if_pos (by omega)]))
              clear HNg HTq
              go_wp2_with fail
              exact ⟨⟨j + 1, gz, cz, by omega, by go_num, rfl, H.out, .inl ⟨rfl, fun j' hj' => by
                by_cases e : j' = j
                · rw [e]; exact HN2.out
                · exact HNo.out j' (by omega), HT.out⟩⟩, by simp [intOf]; omega⟩
            · clear HNg HTq
              obtain ⟨ra2, ro2, rc2, htb⟩ := HT.out
              have Honly := Lib.hid (refOnly_any (ca := cz) (i := q) (j := j) htb hlt (by omega) (by omega) (by omega))
              clear htb
              go_upto_region 20 with (go_at_call 53; refine Honly.out.mono ?_; rintro e w10 ⟨g2, cg, ra3, ro3, rc3, rfl, m10, ht10⟩)
              have H10 := Lib.hid (H.out.frame m10)
              have HT10 := Lib.hid (HT.out.frame m10)
              have HN10 : Hid (RTab w6 w10 aC n (k + n) (restr (tabM C sk k) (upd wf q j) (q + 1)) g2) := Lib.hid ((RTab.one (D := NoBlock) (by omega) H.out.lt H.out.cols ht10).congr fun r _ p _ => oneRow_restr r p)
              have Hok2 := Lib.hid (show TabOk (restr (tabM C sk k) (upd wf q j) (q + 1)) n (k + n) from fun r hr p hp => by
                unfold restr
                split
                · simp [far]
                · exact HW.out.le r hr p hp)
              clear ht10 H HT Honly m10
              obtain ⟨ra4, ro4, rc4, hn10⟩ := HN10.out
              have Hlst := Lib.hid (least_any (ca := cg) (hn10.size (by omega)) Hok2.out (by omega) (by omega) hn0)
              clear hn10
              go_upto_region 21 with (go_at_call 52; refine Hlst.out.mono ?_; rintro e w11 ⟨t2, a4, c4, a5, c5, rfl, -, ht2, hm11⟩)
              have H11 := Lib.hid (H10.out.frame hm11)
              by_cases ht : t2 = t
              · have HG : Hid (Good (tabM C sk k) n k t (upd wf q j) (q + 1)) := Lib.hid ((least_restr HW.out HLe.out _ (by omega)).1 (by rw [← ht]; exact ht2))
                have htb : (t2 == t) = true := by rw [ht]; simp
                have HN11 := Lib.hid (HN10.out.frame hm11)
                clear ht2 ht hm11
                go_wp2_with fail
                exact ⟨⟨j + 1, g2, cg, by omega, by go_num, rfl, H11.out, .inr ⟨j, rfl, hlt2, rfl, HG.out, HNo.out, HN11.out⟩⟩, by simp [intOf]; omega⟩
              · have HN2 : Hid (¬ Good (tabM C sk k) n k t (upd wf q j) (q + 1)) := Lib.hid fun hg => ht (ht2.unique ((least_restr HW.out HLe.out _ (by omega)).2 hg))
                have htb : (t2 == t) = false := beq_eq_false_iff_ne.2 ht
                have HT11 := Lib.hid (HT10.out.frame hm11)
                clear ht2 ht hm11
                go_wp2_with fail
                exact ⟨⟨j + 1, gz, cz, by omega, by go_num, rfl, H11.out, .inl ⟨rfl, fun j' hj' => by
                  by_cases e : j' = j
                  · rw [e]; exact HN2.out
                  · exact HNo.out j' (by omega), HT11.out⟩⟩, by simp [intOf]; omega⟩
          · obtain rfl : k = j := by omega
            obtain ⟨hg9, hn9⟩ := HUp.out.own HW.out HLe.out hlt HNo.out
            have HS2 := Lib.hid (HUp.out.step hg9 hn9)
            obtain ⟨ra2, ro2, rc2, htb⟩ := HT.out
            have honly := refOnly_any (ca := cz) (i := q) (j := k + q) htb hlt (by omega) (by omega) (by omega)
            rw [Int.natCast_add] at honly
            have Honly := Lib.hid honly
            have w2 : IntKind.i64.wrap ((k : Int) + (q : Int)) = (k : Int) + (q : Int) := IntWalk.i64_in _ (by omega)
            clear honly hg9 hn9 hlt2 htb
            go_upto_region 26 with (go_at_call 53; refine Honly.out.mono ?_; rintro e w10 ⟨g2, cg, ra3, ro3, rc3, rfl, m10, ht10⟩)
            have H11 := Lib.hid ((H.out.frame m10).congrC (Cf' := colZ k (upd wf q (k + q))) (fun i hi => by unfold colZ; rw [upd_ne _ (by omega)]))
            have HN10 : Hid (RTab w6 w10 aC n (k + n) (restr (tabM C sk k) (upd wf q (k + q)) (q + 1)) g2) := Lib.hid ((RTab.one (D := NoBlock) (by omega) H.out.lt H.out.cols ht10).congr fun r _ p _ => oneRow_restr r p)
            have Hcf : Hid (colZ k (upd wf q (k + q)) q = -1) := Lib.hid (by unfold colZ; rw [upd_at, if_neg (by omega)])
            have Hl := Lib.hid (rowV_length q (colZ k (upd wf q (k + q))))
            clear ht10 H HT Honly m10 w2
            have b0 := H11.out.b0
            have hsz := H11.out.lt
            go_wp2_with (at_builtin
                         refine wpList_append1 (vs := rowV q (colZ k (upd wf q (k + q)))) rfl (.tmp 97) (.tmp 99) _ rfl Hel.out q 1 (q + 1) 1 [.int .i64 (-1)] rfl rfl Hl.out.symm (by simp) (by omega) (H11.out.cols.alloc _) (Src.one _ _ _) (by simp [Value.oneCell']) (by simp only [maxLen]; omega) (by omega) (by simp; omega) ?_
                         intro a4 c4 w4 hown4 hgrow4 hat4
                         rw [← Hcf.out] at hown4
                         have hk4 := H11.out.keep hgrow4
                         have H4 := Lib.hid (H11.out.append hown4 hgrow4 hat4)
                         have st1 : w4.cell? ⟨w6.heap.size, 0, none⟩ = some (.slice aC q cC) := hk4.cell (i := 0) (by omega)
                         have st2 : w4.frozen? ⟨w6.heap.size, 0, none⟩ = false := hk4.frozen 0
                         clear hown4 hat4 hk4 hgrow4 b0)
            exact ⟨⟨q + 1, upd wf q (k + q), a4, c4, g2, cg, by omega, by go_num, rfl, HS2.out, H4.out.1, HN10.out.append H4.out.2⟩, by simp [intOf]; omega⟩
        · have HNo := Lib.hid hno
          have HS2 := Lib.hid (HUp.out.step hgd hno)
          have HN10 := Lib.hid hrt
          have H11 := Lib.hid (H.out.congrC (Cf' := colZ k (upd wf q j0)) (fun i hi => by unfold colZ; rw [upd_ne _ (by omega)]))
          have Hcf : Hid (colZ k (upd wf q j0) q = (j0 : Int)) := Lib.hid (by unfold colZ; rw [upd_at, if_pos hj0k])
          have Hl := Lib.hid (rowV_length q (colZ k (upd wf q j0)))
          clear hno hrt hgd H
          have b0 := H11.out.b0
          have hneg : ¬ (j0 : Int) < 0 := by omega
          by_cases hlt2 : j < k
          all_goals
            go_wp2_with (at_builtin
                         refine wpList_append1 (vs := rowV q (colZ k (upd wf q j0))) rfl (.tmp 97) (.tmp 99) _ rfl Hel.out q 1 (q + 1) 1 [.int .i64 (j0 : Int)] rfl rfl Hl.out.symm (by simp) (by omega) (H11.out.cols.alloc _) (Src.one _ _ _) (by simp [Value.oneCell']) (by simp only [maxLen]; omega) (by omega) (by simp; omega) ?_
                         intro a4 c4 w4 hown4 hgrow4 hat4
                         rw [← Hcf.out] at hown4
                         have hk4 := H11.out.keep hgrow4
                         have H4 := Lib.hid (H11.out.append hown4 hgrow4 hat4)
                         have st1 : w4.cell? ⟨w6.heap.size, 0, none⟩ = some (.slice aC q cC) := hk4.cell (i := 0) (by omega)
                         have st2 : w4.frozen? ⟨w6.heap.size, 0, none⟩ = false := hk4.frozen 0
                         clear hown4 hat4 hk4 hgrow4 b0)
            exact ⟨⟨q + 1, upd wf q j0, a4, c4, gz, cz, by omega, by go_num, rfl, HS2.out, H4.out.1, HN10.out.append H4.out.2⟩, by simp [intOf]; omega⟩
    · obtain rfl : n = q := by omega
      have HF := Lib.hid (HUp.out.done HLe.out)
      have b0 := H.out.b0
      have b1' := H.out.b1
      have b2 := H.out.b2
      have b3 := H.out.b3
      have hS := HbS.out wo H.out.mod
      have f0 := hS.frozen 0
      have f1 := hS.frozen 1
      have f2 := hS.frozen 2
      have f3 := hS.frozen 3
      have c0 : wo.cell? ⟨S0, 0, none⟩ = some (.slice none 0 0) := hS.cell (i := 0) (by decide)
      have c1' : wo.cell? ⟨S0, 1, none⟩ = some (.int .i64 0) := hS.cell (i := 1) (by decide)
      have c2 : wo.cell? ⟨S0, 2, none⟩ = some (.slice none 0 0) := hS.cell (i := 2) (by decide)
      have c3 : wo.cell? ⟨S0, 3, none⟩ = some (.slice none 0 0) := hS.cell (i := 3) (by decide)
      have Hs := Lib.hid hS
      have hws : S0 < w6.heap.size := Hb6.out.lt
      clear hS HT HUp hlt
      go_wp2_with fail
      have hr := put4 Hs.out (.slice aC n cC) (.int .i64 t) (.slice aU n cU) (.slice aV k cV)
      have hm := mod4 (M6.out.trans H.out.mod) (S := S0) (.inr (by have := HS9.out; omega)) (.slice aC n cC) (.int .i64 t) (.slice aU n cU) (.slice aV k cV)
      have hm2 := mod4 (Mod.refl (fun b => b = S0) wo) (S := S0) (.inl rfl) (.slice aC n cC) (.int .i64 t) (.slice aU n cU) (.slice aV k cV)
      generalize ((((wo.setCell ⟨S0, 0, none⟩ (.slice aC n cC)).setCell ⟨S0, 1, none⟩ (.int .i64 t)).setCell ⟨S0, 2, none⟩ (.slice aU n cU)).setCell ⟨S0, 3, none⟩ (.slice aV k cV)) = w2 at hr hm hm2 ⊢
      have t0 : w2.cell? ⟨S0, 0, none⟩ = some (.slice aC n cC) := hr.cell (i := 0) (by decide)
      have t1 : w2.cell? ⟨S0, 1, none⟩ = some (.int .i64 t) := hr.cell (i := 1) (by decide)
      have t2 : w2.cell? ⟨S0, 2, none⟩ = some (.slice aU n cU) := hr.cell (i := 2) (by decide)
      have t3 : w2.cell? ⟨S0, 3, none⟩ = some (.slice aV k cV) := hr.cell (i := 3) (by decide)
      have hC := H.out.cols.mod hm2 (fun b e e2 => by have := (H.out.cols.lt e).1; omega)
      rw [rowV_map] at hC
      refine bodyPost_ret (v := .tuple #[.agg #[.slice aC n cC, .int .i64 t, .slice aU n cU, .slice aV k cV], .int .i64 0]) (by simp [results, Try.results36, go_sem, t0, t1, t2, t3]) rfl
        ⟨t, wf, aC, cC, aU, n, cU, aV, k, cV, rfl, hm, HF.out, ?_⟩
      exact hC.ints (fun b hb _ => by show w.heap.size ≤ b; have := HS9.out; omega) (by rw [rowI_length]; simp only [maxLen]; omega)

end Go.Proofs.Ytnacoglfhhenhaa
