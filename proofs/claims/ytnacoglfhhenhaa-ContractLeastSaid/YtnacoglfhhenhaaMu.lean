/-
  match: the reference's wide table, and the table in which a row has one column.
-/
import Derived.Test.YtnacoglfhhenhaaMt
import Derived.WalkMore
import Derived.Deep.RegionLaw
set_option linter.unusedVariables false
set_option linter.unusedSimpArgs false
namespace Go.Proofs.Ytnacoglfhhenhaa
open Go.RowKit

set_option maxRecDepth 100000 in
set_option maxHeartbeats 6400000 in
theorem refTable_any {D E : Nat → Prop} {w : World} {a b : Option Addr} {c d n k : Nat} {C : List (List Int)} {sk : List Int} (h : Mixes D w a C) (hs : Ints E w b sk) (hp : ProbOk C sk n k) :
    Calls Try.prog 51 #[.slice a n c, .slice b n d] w fun e w' => ∃ a1 c1 ra ro rc, e = .returned (.slice a1 n c1) ∧ GT NoBlock w w' a1 c1 n (k + n) (wideT (fun i j => ix (rx C i) j) (ix sk) k) ra ro rc := by
  have HC := Lib.hid h
  have HS := Lib.hid hs
  have HP := Lib.hid hp
  have Hel := Lib.hid elemInt1
  have HeL := Lib.hid elemRows
  have n24 := hp.n24
  have k24 := hp.k24
  clear h hs hp
  go_enter Try.func51, Try.ntmps51
  go_wp2_with fail
  go_loopw [5, 6] (fun o i wr => ∃ (q : Nat) (a1 : Option Addr) (c1 : Nat) (ra ro rc : Nat → Nat), q ≤ n ∧ i = .int .i64 q ∧ o = .slice a1 q c1 ∧ GT NoBlock w wr a1 c1 q (k + n) (wideT (fun i j => ix (rx C i) j) (ix sk) k) ra ro rc) (fun _ i _ => n - (intOf i).toNat)
  case atStart => exact ⟨0, none, 0, _, _, _, by omega, rfl, rfl, GT.nil _ _ _ _⟩
  case round =>
    obtain ⟨q, a1, c1, ra, ro, rc, hq, rfl, rfl, hgt⟩ := hrel
    have G := Lib.hid hgt
    clear hgt
    obtain ⟨wo, rfl⟩ : ∃ wo : World, wo = wr := ⟨_, rfl⟩
    by_cases hlt : q < n
    · have q1 : (q : Int) < (n : Int) := by omega
      obtain ⟨b1, o1, a2, c2, rfl, _, hc1, hI1⟩ := HC.out.row (k := q) (by rw [HP.out.rect.1]; exact hlt)
      rw [HP.out.rect.2 q hlt] at hc1
      have HI := Lib.hid hI1
      have H1 := Lib.hid hc1
      clear hI1 hc1
      obtain ⟨W1, hW1⟩ : ∃ W1 : Nat → Int, W1 = wideT (fun i j => ix (rx C i) j) (ix sk) k q := ⟨_, rfl⟩
      have HW := Lib.hid (fun j => congrFun hW1 j)
      clear hW1
      go_wp2_with fail
      go_loopw [7, 8] (fun o i wr => ∃ (j : Nat) (a2 : Option Addr) (c2 : Nat), j ≤ k ∧ i = .int .i64 j ∧ o = .slice a2 j c2 ∧ GTX NoBlock w wr a1 c1 q (k + n) (wideT (fun i j => ix (rx C i) j) (ix sk) k) ra ro rc a2 c2 j W1) (fun _ i _ => k - (intOf i).toNat)
      case atStart => exact ⟨0, none, 0, by omega, rfl, rfl, G.out.start _⟩
      case round =>
        clear G
        clear wo
        obtain ⟨j, a3, c3, hj, rfl, rfl, hgx⟩ := hrel
        have G := Lib.hid hgx
        clear hgx
        obtain ⟨wo, rfl⟩ : ∃ wo : World, wo = wr := ⟨_, rfl⟩
        have h1 := G.out.gt.mod.cell H1.out id
        have hsz := G.out.gt.mod.size
        by_cases hjk : j < k
        · have j1 : (j : Int) < (k : Int) := by omega
          obtain ⟨_, b2, o2, ha2, hc2⟩ := HI.out.open
          obtain rfl := ha2 (by intro e; have := HP.out.rect.2 q hlt; rw [e] at this; simp at this; omega)
          have h2 := G.out.gt.mod.cell (hc2 j (by rw [HP.out.rect.2 q hlt]; exact hjk)) id
          have hx := HP.out.cost q hlt j hjk
          have Hv : Hid (W1 j = if ix (rx C q) j = -1 then far else ix (rx C q) j) := Lib.hid (by rw [HW.out]; unfold wideT; rw [if_pos hjk])
          clear ha2 hc2
          generalize ix (rx C q) j = y at h2 hx Hv
          have Hl := Lib.hid (rowV_length j W1)
          by_cases hy : y < 0
          · have Hv2 : Hid (W1 j = 1099511627776) := Lib.hid (by rw [Hv.out, if_pos (by omega)]; rfl)
            go_wp2_with (at_builtin; refine wpList_append1 (vs := rowV j W1) rfl (.tmp 36) (.tmp 38) _ rfl Hel.out j 1 (j + 1) 1 [.int .i64 1099511627776] rfl rfl Hl.out.symm (by simp) (by omega) (G.out.row.alloc _) (Src.one _ _ _) (by simp [Value.oneCell']) (by simp only [maxLen]; omega) (by omega) (by simp; omega) ?_; intro a4 c4 w4 hown4 hgrow4 hat4)
            rw [← Hv2.out] at hown4
            exact ⟨⟨j + 1, a4, c4, by omega, by go_num, rfl, G.out.append hown4 hgrow4 hat4⟩, by simp [intOf]; omega⟩
          · have Hv2 : Hid (W1 j = y) := Lib.hid (by rw [Hv.out, if_neg (by omega)])
            go_wp2_with (at_builtin; refine wpList_append1 (vs := rowV j W1) rfl (.tmp 36) (.tmp 38) _ rfl Hel.out j 1 (j + 1) 1 [.int .i64 y] rfl rfl Hl.out.symm (by simp) (by omega) (G.out.row.alloc _) (Src.one _ _ _) (by simp [Value.oneCell']) (by simp only [maxLen]; omega) (by omega) (by simp; omega) ?_; intro a4 c4 w4 hown4 hgrow4 hat4)
            rw [← Hv2.out] at hown4
            exact ⟨⟨j + 1, a4, c4, by omega, by go_num, rfl, G.out.append hown4 hgrow4 hat4⟩, by simp [intOf]; omega⟩
        · obtain rfl : k = j := by omega
          clear hjk hj
          go_wp2_with fail
          go_loopw [7, 10] (fun o i wr => ∃ (p : Nat) (a2 : Option Addr) (c2 : Nat), p ≤ n ∧ i = .int .i64 p ∧ o = .slice a2 (k + p) c2 ∧ GTX NoBlock w wr a1 c1 q (k + n) (wideT (fun i j => ix (rx C i) j) (ix sk) k) ra ro rc a2 c2 (k + p) W1) (fun _ i _ => n - (intOf i).toNat)
          case atStart => exact ⟨0, a3, c3, by omega, rfl, rfl, G.out⟩
          case round =>
            clear G h1 hsz
            clear wo
            obtain ⟨p, a3, c3, hp, rfl, rfl, hgx⟩ := hrel
            have G := Lib.hid hgx
            clear hgx
            obtain ⟨wo, rfl⟩ : ∃ wo : World, wo = wr := ⟨_, rfl⟩
            have hsz := G.out.gt.mod.size
            have Hl := Lib.hid (rowV_length (k + p) W1)
            by_cases hpn : p < n
            · have p1 : (p : Int) < (n : Int) := by omega
              by_cases hpq : p = q
              · have pq : ((p : Int) == (q : Int)) = true := by rw [hpq]; simp
                obtain ⟨_, b2, o2, ha2, hc2⟩ := HS.out.open
                obtain rfl := ha2 (by intro e; have := HP.out.len; rw [e] at this; simp at this; omega)
                have h2 := G.out.gt.mod.cell (hc2 q (by rw [HP.out.len]; exact hlt)) id
                have Hv2 : Hid (W1 (k + p) = ix sk q) := Lib.hid (by rw [HW.out, hpq]; unfold wideT; rw [if_neg (by omega), if_pos rfl])
                clear ha2 hc2 hpq
                generalize ix sk q = y at h2 Hv2
                go_wp2_with (at_builtin; refine wpList_append1 (vs := rowV (k + p) W1) rfl (.tmp 53) (.tmp 55) _ rfl Hel.out (k + p) 1 (k + p + 1) 1 [.int .i64 y] rfl rfl Hl.out.symm (by simp) (by omega) (G.out.row.alloc _) (Src.one _ _ _) (by simp [Value.oneCell']) (by simp only [maxLen]; omega) (by omega) (by simp; omega) ?_; intro a4 c4 w4 hown4 hgrow4 hat4)
                rw [← Hv2.out] at hown4
                exact ⟨⟨p + 1, a4, c4, by omega, by go_num, rfl, G.out.append hown4 hgrow4 hat4⟩, by simp [intOf]; omega⟩
              · have pq : ((p : Int) == (q : Int)) = false := beq_eq_false_iff_ne.2 (by omega)
                have Hv2 : Hid (W1 (k + p) = 1099511627776) := Lib.hid (by rw [HW.out]; unfold wideT; rw [if_neg (by omega), if_neg (by omega)]; rfl)
                clear hpq
                go_wp2_with (at_builtin; refine wpList_append1 (vs := rowV (k + p) W1) rfl (.tmp 53) (.tmp 55) _ rfl Hel.out (k + p) 1 (k + p + 1) 1 [.int .i64 1099511627776] rfl rfl Hl.out.symm (by simp) (by omega) (G.out.row.alloc _) (Src.one _ _ _) (by simp [Value.oneCell']) (by simp only [maxLen]; omega) (by omega) (by simp; omega) ?_; intro a4 c4 w4 hown4 hgrow4 hat4)
                rw [← Hv2.out] at hown4
                exact ⟨⟨p + 1, a4, c4, by omega, by go_num, rfl, G.out.append hown4 hgrow4 hat4⟩, by simp [intOf]; omega⟩
            · obtain rfl : n = p := by omega
              clear hpn hp
              obtain ⟨x, rfl⟩ := G.out.addr (by omega)
              have Hl2 := Lib.hid (hdrs_length (k + n) ra ro rc q)
              go_wp2_with (at_builtin; refine wpList_append1 (vs := hdrs (k + n) ra ro rc q) rfl (.tmp 57) (.tmp 59) _ rfl HeL.out q 1 (q + 1) 1 [.slice (some ⟨x, 0, none⟩) (k + n) c3] rfl rfl Hl2.out.symm (by simp) (by omega) (G.out.gt.own.alloc _) (Src.one _ _ _) (by simp [Value.oneCell']) (by simp only [maxLen]; omega) (by omega) (by simp; omega) ?_; intro a4 c4 w4 hown4 hgrow4 hat4)
              exact ⟨⟨q + 1, a4, c4, _, _, _, by omega, by go_num, rfl, G.out.done (by omega) (fun j _ => HW.out j) (fun _ _ _ _ => rfl) hown4 hgrow4 hat4⟩, by simp [intOf]; omega⟩
    · obtain rfl : n = q := by omega
      go_wp2_with fail
      go_ret
      exact ⟨a1, c1, ra, ro, rc, rfl, G.out⟩

set_option maxRecDepth 100000 in
set_option maxHeartbeats 6400000 in
theorem refOnly_any {D : Nat → Prop} {w : World} {ba oa ca n K i j : Nat} {T : Nat → Nat → Int} {ra ro rc : Nat → Nat} (hT : Tab D w ba oa n K T ra ro rc) (hi : i < n) (hj : j < K) (hn9 : n ≤ 60) (hk9 : K ≤ 60) :
    Calls Try.prog 53 #[.slice (some ⟨ba, oa, none⟩) n ca, .int .i64 i, .int .i64 j] w fun e w' => ∃ g cg ra' ro' rc', e = .returned (.slice (some ⟨g, 0, none⟩) n cg) ∧ Mod NoBlock w w' ∧ Tab (fun b => D b ∨ w.heap.size ≤ b) w' g 0 n K (oneRow T i j) ra' ro' rc' := by
  have hmk := run_make_row' (P := Try.prog) 30 3 (.int .i64 0) 8 Try.underlying30 infoIntM rfl .i64 .i64 K (by omega) (by omega)
  have HT := Lib.hid hT
  have HeL := Lib.hid elemRows
  have Hmk := Lib.hid hmk
  have i1 : (i : Int) < (n : Int) := by omega
  have j1 : (j : Int) < (K : Int) := by omega
  clear hT hmk
  go_enter Try.func53, Try.ntmps53
  go_wp2_with fail
  go_loopw [7, 8] (fun o i' wr => ∃ (q : Nat) (a1 : Option Addr) (c1 : Nat) (ra' ro' rc' : Nat → Nat), q ≤ n ∧ i' = .int .i64 q ∧ o = .slice a1 q c1 ∧ GT D w wr a1 c1 q K (oneRow T i j) ra' ro' rc') (fun _ i _ => n - (intOf i).toNat)
  case atStart => exact ⟨0, none, 0, _, _, _, by omega, rfl, rfl, GT.nil _ _ _ _⟩
  case round =>
    obtain ⟨q, a1, c1, ra', ro', rc', hq, rfl, rfl, hgt⟩ := hrel
    have G := Lib.hid hgt
    clear hgt
    obtain ⟨wo, rfl⟩ : ∃ wo : World, wo = wr := ⟨_, rfl⟩
    have hsz := G.out.mod.size
    have Hl2 := Lib.hid (hdrs_length K ra' ro' rc' q)
    by_cases hlt : q < n
    · have q1 : (q : Int) < (n : Int) := by omega
      have hr := G.out.mod.cell (HT.out.rows q hlt) id
      by_cases hqi : q = i
      · have qi : ((q : Int) != (i : Int)) = false := by rw [hqi]; simp
        have Hqi := Lib.hid hqi
        clear hqi
        have hmk := Hmk.out
        go_upto_region 8 with fail
        have Gx := Lib.hid G.out.fresh
        clear G hmk hr hsz
        generalize wo.alloc (.cells (madeCells #[.int .i64 0] K) 3) = w2 at Gx ⊢
        generalize wo.heap.size = x at Gx ⊢
        go_wp2_with fail
        go_loopw [10] (fun i' wr => ∃ p : Nat, p ≤ K ∧ i' = .int .i64 p ∧ GTF D w wr a1 c1 q K (oneRow T i j) ra' ro' rc' x (midF (fun _ => far) (fun _ => 0) p)) (fun i _ => K - (intOf i).toNat)
        case atStart => exact ⟨0, by omega, rfl, Gx.out.congr (fun j _ => by rw [midF_ge (Nat.not_lt_zero j)])⟩
        case round =>
          clear Gx
          clear w2
          obtain ⟨p, hp, rfl, hgx⟩ := hrel
          have Gx := Lib.hid hgx
          clear hgx
          obtain ⟨wp, rfl⟩ : ∃ wp : World, wp = wr := ⟨_, rfl⟩
          by_cases hpK : p < K
          · have hc := Gx.out.at hpK
            rw [midF_ge (by omega)] at hc
            have hf := Gx.out.row.frozen p
            have p1 : (p : Int) < (K : Int) := by omega
            go_wp2_with fail
            exact ⟨⟨p + 1, by omega, by go_num, Gx.out.set (fun _ => by rw [midF_at]; rfl) (fun p _ hp => midF_step hp)⟩, by simp [intOf]; omega⟩
          · obtain rfl : p = K := by omega
            clear hpK hp
            have c0 := Gx.out.gt.mod.cell (HT.out.rows q hlt) id
            have c1' := Gx.out.gt.mod.cell (HT.out.cells q hlt j hj) id
            have hc := Gx.out.at hj
            have hf := Gx.out.row.frozen j
            go_upto_region 13 with fail
            have Gz := Lib.hid (Gx.out.set (k := j) (y := T q j) (F' := oneRow T i j i) (fun _ => by rw [Hqi.out]; unfold oneRow; rw [if_neg (fun h => h.2 rfl)]) (fun r hr hrj => by rw [midF_lt hr]; unfold oneRow; rw [if_pos ⟨rfl, hrj⟩]))
            generalize wp.setCell ⟨x, j, none⟩ (.int .i64 (T q j)) = w4 at Gz ⊢
            clear Gx hc hf c0 c1'
            have hsz := Gz.out.gt.mod.size
            go_wp2_with (at_builtin; refine wpList_append1 (vs := hdrs p ra' ro' rc' q) rfl (.tmp 52) (.tmp 54) _ rfl HeL.out q 1 (q + 1) 1 [.slice (some ⟨x, 0, none⟩) p p] rfl rfl Hl2.out.symm (by simp) (by omega) (Gz.out.gt.own.alloc _) (Src.one _ _ _) (by simp [Value.oneCell']) (by simp only [maxLen]; omega) (by omega) (by simp; omega) ?_; intro a4 c4 w5 hown4 hgrow4 hat4)
            exact ⟨⟨q + 1, a4, c4, _, _, _, by omega, by go_num, rfl, Gz.out.done (fun j _ => by rw [Hqi.out]) (fun _ _ _ _ => rfl) hown4 hgrow4 hat4⟩, by simp [intOf]; omega⟩
      · have qi : ((q : Int) != (i : Int)) = true := bne_iff_ne.2 (by omega)
        have Hqi := Lib.hid hqi
        clear hqi
        have Hx : Hid (ra q < w.heap.size) := Lib.hid (World.block_lt_of_cell? w _ (HT.out.cells q hlt j hj))
        go_wp2_with (at_builtin; refine wpList_append1 (vs := hdrs K ra' ro' rc' q) rfl (.tmp 20) (.tmp 25) _ rfl HeL.out q 1 (q + 1) 1 [.slice (some ⟨ra q, ro q, none⟩) K (rc q)] rfl rfl Hl2.out.symm (by simp) (by omega) (G.out.own.alloc _) (Src.one _ _ _) (by simp [Value.oneCell']) (by simp only [maxLen]; omega) (by omega) (by simp; omega) ?_; intro a4 c4 w5 hown4 hgrow4 hat4)
        exact ⟨⟨q + 1, a4, c4, _, _, _, by omega, by go_num, rfl, G.out.push (fun e => by have := (G.out.own.lt e.symm).1; have := Hx.out; omega) (.inl (HT.out.own q hlt)) (Nat.lt_of_lt_of_le Hx.out G.out.mod.size)
          (fun p hp => by unfold oneRow; rw [if_neg (fun h => Hqi.out h.1)]; exact G.out.mod.cell (HT.out.cells q hlt p hp) id) (fun _ _ _ _ => rfl) hown4 hgrow4 hat4⟩, by simp [intOf]; omega⟩
    · obtain rfl : n = q := by omega
      go_wp2_with fail
      go_ret
      obtain ⟨g, rfl, ht⟩ := G.out.tab (by omega)
      exact ⟨g, c1, ra', ro', rc', rfl, G.out.mod, ht⟩

end Go.Proofs.Ytnacoglfhhenhaa
