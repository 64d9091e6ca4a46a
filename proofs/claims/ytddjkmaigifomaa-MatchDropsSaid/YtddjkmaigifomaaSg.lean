/-
  match: the law MatchDrops walked, the main way.
-/
import Derived.Test.YtddjkmaigifomaaSf
import Derived.Test.YtddjkmaigifomaaSd
import Derived.Test.YtddjkmaigifomaaCx6
set_option linter.unusedVariables false
set_option linter.unusedSimpArgs false
namespace Go.Proofs.Ytddjkmaigifomaa
open Go.RowKit

theorem vals_skip {l : List Int} {k col : Nat} (hl : l.length = k + 1) (hc : col < k + 1) :
    rowV col (ix l) ++ ((l.map (Value.int .i64)).drop (col + 1)) = rowV k (fun j => ix l (skipC col j)) := by
  refine List.ext_getElem? fun j => ?_
  by_cases h1 : j < col
  · rw [List.getElem?_append_left (by rw [rowV_length]; exact h1), rowV_get h1, rowV_get (by omega)]
    unfold skipC
    rw [if_pos h1]
  · rw [List.getElem?_append_right (by rw [rowV_length]; omega), rowV_length, List.getElem?_drop]
    by_cases h2 : j < k
    · rw [rowV_get h2, show col + 1 + (j - col) = j + 1 by omega, List.getElem?_map, List.getElem?_eq_getElem (by omega)]
      unfold skipC
      rw [if_neg h1, ix_eq (by omega)]
      rfl
    · rw [List.getElem?_eq_none (by simp; omega), List.getElem?_eq_none (by rw [rowV_length]; omega)]
theorem rowV_take {n m : Nat} {F : Nat → Int} (h : m ≤ n) : (rowV n F).take m = rowV m F := by
  unfold rowV
  rw [← List.map_take, List.take_range, Nat.min_eq_left h]
theorem Src.of_nil {w : World} {a : Option Addr} {news : List Value} (h : news = []) : Src w a news := by subst h; exact Src.nil _ _
theorem Src.drop {w : World} {b o k : Nat} {news : List Value} (h : Src w (some ⟨b, o, none⟩) news) : Src w (some ⟨b, o + k, none⟩) (news.drop k) := fun hn => by
  obtain ⟨ad, ha, hc⟩ := h (by intro e; subst e; simp at hn)
  obtain rfl := Option.some_inj.1 ha
  refine ⟨_, rfl, fun j u hu => ?_⟩
  rw [List.getElem?_drop] at hu
  have := hc _ _ hu
  rw [add_plain] at this ⊢
  rw [Nat.add_assoc]; exact this

set_option maxRecDepth 100000 in
set_option maxHeartbeats 12800000 in
theorem matchDrops_in (a : Option Addr) (c : Nat) (C : List (List Int)) {w : World} (hx : Mixes Any w a C) (hcap : Caps w a C.length) (b : Option Addr) (d : Nat) (sk : List Int) (hs : Ints Any w b sk) (col : Nat)
    (hl : Lit C sk) (hok : chkM C sk = 0) (hn0 : 0 < C.length) (hcol : col < (rx C 0).length) :
    Calls Try.prog 9 #[.slice a C.length c, .slice b sk.length d, .int .i64 col] w fun e w' => e = .returned (.bool true) ∧ Mod NoBlock w w' := by
  have HC := Lib.hid hx
  have HS := Lib.hid hs
  have HCap := Lib.hid hcap
  clear hx hs hcap
  have Hl := Lib.hid (light_yes (c := c) (d := d) HC.out HS.out hl)
  have hk := check_any (c := c) (d := d) HC.out HS.out
  rw [hok] at hk
  have Hk := Lib.hid hk
  have HP := Lib.hid (probOk hok)
  rw [HP.out.len] at Hk Hl ⊢
  have Hs := Lib.hid fun (w' : World) (m : Mod NoBlock w w') => solve_sol (n := C.length) (k := (rx C 0).length) (c := c) (d := d) (HC.out.frame m) (HS.out.frame m) hok rfl rfl
  obtain ⟨n, hn⟩ : ∃ n, C.length = n := ⟨_, rfl⟩
  obtain ⟨K, hk9⟩ : ∃ K, (rx C 0).length = K := ⟨_, rfl⟩
  rw [hk9] at hcol
  obtain ⟨k, hK1, hK2⟩ : ∃ k, k < K ∧ K ≤ k + 1 := ⟨K - 1, by omega, by omega⟩
  rw [hn] at HP Hs Hl Hk HCap hn0 ⊢
  rw [hk9] at HP Hs
  have n24 := HP.out.n24
  have k24 := HP.out.k24
  have Hn := Lib.hid hn
  have n1 : (0 : Int) < (n : Int) := by omega
  have nz : ((n : Int) == 0) = false := beq_eq_false_iff_ne.2 (by omega)
  have cz : decide ((col : Int) < 0) = false := decide_eq_false (by omega)
  have cl : (col : Int) < (K : Int) := by omega
  have Hel := Lib.hid elemInt1
  have HeL := Lib.hid elemRows
  obtain ⟨b1, o1, a0, c0, rfl, -, hc0, -⟩ := HC.out.row (k := 0) (by rw [hn]; exact hn0)
  rw [HP.out.rect.2 0 hn0, Nat.add_zero] at hc0
  clear hl hok hk hn hk9
  go_enter Try.func9, Try.ntmps9
  go_wp2_with fail
  refine Hl.out.mono ?_; rintro e w1 ⟨rfl, rfl⟩
  go_wp2_with fail
  refine Hk.out.mono ?_; rintro e w1 ⟨rfl, rfl⟩
  have HsW := Lib.hid (Hs.out w (Mod.refl _ _))
  go_upto_region 4 with (go_at_call 14; refine HsW.out.mono ?_; rintro e w8 ⟨t, wf, cols, U, V, aC, cC, aU, cU, aV, cV, rfl, m8, hsol, hCC, -, -⟩)
  clear HsW Hl Hk hc0 Hs
  have m9 := m8.alloc (.cells #[.slice aC n cC, .int .i64 t, .slice aU n cU, .slice aV K cV] 29)
  have HB := Lib.hid (rowIs_new w8 #[.slice aC n cC, .int .i64 t, .slice aU n cU, .slice aV K cV] 29)
  have HSol := Lib.hid hsol
  have HCc := Lib.hid (hCC.alloc (.cells #[.slice aC n cC, .int .i64 t, .slice aU n cU, .slice aV K cV] 29))
  have M9 := Lib.hid m9
  clear m8 m9 hsol hCC
  generalize w8.alloc (.cells #[.slice aC n cC, .int .i64 t, .slice aU n cU, .slice aV K cV] 29) = w9 at HB HCc M9 ⊢
  generalize w8.heap.size = gm at HB ⊢
  go_upto_region 7 with fail
  go_wp2_with fail
  go_loopw [9, 10] (fun o i wr => ∃ (q : Nat) (a1 : Option Addr) (c1 : Nat) (ad : Nat → Option Addr) (rc : Nat → Nat), q ≤ n ∧ i = .int .i64 q ∧ o = .slice a1 q c1 ∧ CP w9 wr a1 c1 q k (fun i j => ix (rx C i) (skipC col j)) ad rc) (fun _ i _ => n - (intOf i).toNat)
  case atStart => exact ⟨0, none, 0, _, _, by omega, rfl, rfl, CP.nil _ _ _⟩
  case round =>
    obtain ⟨q, a1, c1, ad, rc, hq, rfl, rfl, hcp⟩ := hrel
    have G := Lib.hid hcp
    clear hcp
    obtain ⟨wo, rfl⟩ : ∃ wo : World, wo = wr := ⟨_, rfl⟩
    by_cases hlt : q < n
    · have q1 : (q : Int) < (n : Int) := by omega
      obtain ⟨b9, o9, a2, c2, e9, -, hc1, hI1⟩ := HC.out.row (k := q) (by rw [Hn.out]; exact hlt)
      simp only [Option.some.injEq, Addr.mk.injEq, and_true] at e9
      obtain ⟨rfl, rfl⟩ := e9
      have hcp2 := HCap.out b1 o1 rfl q hlt _ _ _ hc1
      rw [HP.out.rect.2 q hlt] at hc1 hcp2
      have h1 := G.out.mod.cell (M9.out.cell hc1 id) id
      have HI := Lib.hid (hI1.frame (M9.out.trans G.out.mod))
      have HRq := Lib.hid (HP.out.rect.2 q hlt)
      have Hl2 := Lib.hid (hdrsO_length k ad rc q)
      have hsz := G.out.mod.size
      have c2a : (col : Int) ≤ (c2 : Int) := by omega
      have c2b : (K : Int) ≤ (c2 : Int) := by omega
      clear hI1 hc1
      obtain ⟨_, b3, o3, ha3, _⟩ := HI.out.open
      obtain rfl := ha3 (by intro e; have := HRq.out; rw [e] at this; simp at this; omega)
      clear ha3
      have Hvl : Hid ((((rx C q).map (Value.int .i64)).take col).length = col) := Lib.hid (by rw [List.length_take, List.length_map, HRq.out]; omega)
      go_upto_region 14 with (at_builtin; refine wpList_append1 (vs := []) rfl (.tmp 66) (.tmp 72) _ rfl Hel.out 0 col col c2 (((rx C q).map (Value.int .i64)).take col) rfl rfl rfl Hvl.out.symm (by omega) (Own.nil _ wo.heap.size _) ((Src.ints HI.out).take col) (fun u hu => ints_one _ u (List.mem_of_mem_take hu)) (by simp only [maxLen]; omega) (by omega) (Nat.le_refl _) ?_; intro a4 c4 w4 hown4 hgrow4 hat4)
      rw [List.nil_append, rowV_of_ints, HRq.out] at hown4
      have HO := Lib.hid hown4
      have HM := Lib.hid (show Mod NoBlock wo w4 from (Mod.refl _ _).grown hgrow4 (fun k e => by cases e))
      have hsz4 := hgrow4.size
      clear hown4 hgrow4 hat4
      have h2 := HM.out.cell h1 id
      clear h1
      have cw : IntKind.i64.wrap ((col : Int) + 1) = (col : Int) + 1 := IntWalk.i64_in _ (by omega)
      have cx : (0 : Int) ≤ (col : Int) + 1 := by omega
      have cy : ((col : Int) + 1).toNat = col + 1 := by omega
      have HI4 := Lib.hid (HI.out.frame HM.out)
      have Hv1 := Lib.hid (rowV_length col (ix (rx C q)))
      have Hv2 : Hid ((((rx C q).map (Value.int .i64)).drop (col + 1)).length = K - (col + 1)) := Lib.hid (by rw [List.length_drop, List.length_map, HRq.out])
      have c2c : (col : Int) + 1 ≤ (K : Int) := by omega
      have c2d : (col : Int) + 1 ≤ (c2 : Int) := by omega
      have HOk : Hid (Own w4 wo.heap.size 3 a4 c4 (rowV col (ix (rx C q)))) := Lib.hid (by
        have h9 := HO.out
        rwa [show (rowV K (ix (rx C q))).take col = rowV col (ix (rx C q)) from rowV_take (by omega)] at h9)
      have kk : Hid (col + (K - (col + 1)) = k) := Lib.hid (by omega)
      clear HO
      by_cases hcc : c2 = col + 1
      · have e7 : Hid (((rx C q).map (Value.int .i64)).drop (col + 1) = []) := Lib.hid (List.drop_eq_nil_of_le (by rw [List.length_map, HRq.out]; omega))
        go_wp2_with (first
        | (at_builtin; refine wpList_append1 (vs := rowV col (ix (rx C q))) rfl (.tmp 75) (.tmp 82) _ rfl Hel.out col _ (col + (K - (col + 1))) _ (((rx C q).map (Value.int .i64)).drop (col + 1)) rfl rfl Hv1.out.symm Hv2.out.symm rfl HOk.out (Src.of_nil e7.out) (fun u hu => ints_one _ u (List.mem_of_mem_drop hu)) (by simp only [maxLen]; omega) (by omega) hsz4 ?_; intro a5 c5 w5 hown5 hgrow5 hat5
           rw [vals_skip (k := k) (by rw [HRq.out]; omega) (by omega)] at hown5
           have HO5 := Lib.hid hown5
           have HM5 := Lib.hid (show Mod NoBlock wo w5 from HM.out.grown hgrow5 (fun k e => .inr (HOk.out.lt e).1))
           have hsz5 := hgrow5.size
           rw [kk.out]
           clear hown5 hgrow5 hat5)
        | (at_builtin; refine wpList_append1 (vs := hdrsO k ad rc q) rfl (.tmp 74) (.tmp 84) _ rfl HeL.out q 1 (q + 1) 1 [.slice a5 k c5] rfl rfl Hl2.out.symm (by simp) (by omega) ((G.out.own.mod HM5.out fun _ _ => id).alloc _) (Src.one _ _ _) (by simp [Value.oneCell']) (by simp only [maxLen]; omega) (by omega) (by simp; omega) ?_; intro a6 c6 w6 hown6 hgrow6 hat6))
        exact ⟨⟨q + 1, a6, c6, _, _, by omega, by go_num, rfl, G.out.push HM5.out HO5.out (fun _ _ _ _ => rfl) hown6 hgrow6 hat6⟩, by simp [intOf]; omega⟩
      · go_wp2_with (first
        | (at_builtin; refine wpList_append1 (vs := rowV col (ix (rx C q))) rfl (.tmp 75) (.tmp 82) _ rfl Hel.out col _ (col + (K - (col + 1))) _ (((rx C q).map (Value.int .i64)).drop (col + 1)) rfl rfl Hv1.out.symm Hv2.out.symm rfl HOk.out (Src.drop (Src.ints HI4.out)) (fun u hu => ints_one _ u (List.mem_of_mem_drop hu)) (by simp only [maxLen]; omega) (by omega) hsz4 ?_; intro a5 c5 w5 hown5 hgrow5 hat5
           rw [vals_skip (k := k) (by rw [HRq.out]; omega) (by omega)] at hown5
           have HO5 := Lib.hid hown5
           have HM5 := Lib.hid (show Mod NoBlock wo w5 from HM.out.grown hgrow5 (fun k e => .inr (HOk.out.lt e).1))
           have hsz5 := hgrow5.size
           rw [kk.out]
           clear hown5 hgrow5 hat5)
        | (at_builtin; refine wpList_append1 (vs := hdrsO k ad rc q) rfl (.tmp 74) (.tmp 84) _ rfl HeL.out q 1 (q + 1) 1 [.slice a5 k c5] rfl rfl Hl2.out.symm (by simp) (by omega) ((G.out.own.mod HM5.out fun _ _ => id).alloc _) (Src.one _ _ _) (by simp [Value.oneCell']) (by simp only [maxLen]; omega) (by omega) (by simp; omega) ?_; intro a6 c6 w6 hown6 hgrow6 hat6))
        exact ⟨⟨q + 1, a6, c6, _, _, by omega, by go_num, rfl, G.out.push HM5.out HO5.out (fun _ _ _ _ => rfl) hown6 hgrow6 hat6⟩, by simp [intOf]; omega⟩
    · obtain rfl : n = q := by omega
      clear hlt hq
      have hmx := Lib.hid (G.out.mixes (by simp only [maxLen]; omega) (by simp only [maxLen]; omega))
      have HcA : Hid (∀ i, i < n → ∀ j, j < k → ix (rx (rowsI n k (fun i j => ix (rx C i) (skipC col j))) i) j = ix (rx C i) (skipC col j)) := Lib.hid fun i hi j hj => by rw [rowsI_rx hi, rowI_ix hj]
      have HlA : Hid ((rowsI n k (fun i j => ix (rx C i) (skipC col j))).length = n) := Lib.hid (rowsI_length _ _ _)
      have HR : Hid (∀ r, r < n → (rx (rowsI n k (fun i j => ix (rx C i) (skipC col j))) r).length = k) := Lib.hid fun r hr => by rw [rowsI_rx hr, rowI_length]
      have MW := Lib.hid (M9.out.trans G.out.mod)
      have HBw := Lib.hid (HB.out.of_block (G.out.mod.block _ HB.out.lt id))
      have HCw := Lib.hid (HCc.out.frame G.out.mod)
      clear G HB HCc M9
      generalize rowsI n k (fun i j => ix (rx C i) (skipC col j)) = C' at hmx HcA HlA HR
      have hok' : chkM C' sk = 0 := chkM_ok (n := n) (k := k) ⟨HlA.out, HR.out⟩ HP.out.len n24 (by omega) hn0 (fun r hr j hj => by
        rw [HcA.out r hr j hj]; exact HP.out.cost r hr _ (by unfold skipC; split <;> omega)) HP.out.skip
      have hs2 := solve_sol (n := n) (k := k) (c := c1) (d := d) hmx.out (HS.out.frame MW.out) hok' HlA.out (HR.out 0 hn0)
      have Hs2 := Lib.hid hs2
      clear hs2 hok'
      go_upto_region 16 with (go_at_call 14; refine Hs2.out.mono ?_; rintro e w10 ⟨t', wf', cols', U', V', aC', cC', aU', cU', aV', cV', rfl, m10, hsol', hCC', -, -⟩)
      have m11 := m10.alloc (.cells #[.slice aC' n cC', .int .i64 t', .slice aU' n cU', .slice aV' k cV'] 29)
      have HB2 := Lib.hid (rowIs_new w10 #[.slice aC' n cC', .int .i64 t', .slice aU' n cU', .slice aV' k cV'] 29)
      have HD := Lib.hid (first_drop (k := K) (k' := k) (col := col) (by omega) hcol (tab_drop (by omega) hcol HcA.out) HSol.out.first hsol'.first)
      have HSol2 := Lib.hid hsol'
      have HB1 := Lib.hid (HBw.out.of_block (m11.block _ HBw.out.lt id))
      have HC2 := Lib.hid (hCC'.alloc (.cells #[.slice aC' n cC', .int .i64 t', .slice aU' n cU', .slice aV' k cV'] 29))
      have HC1 := Lib.hid (HCw.out.frame m11)
      have M11 := Lib.hid (MW.out.trans m11)
      clear m10 m11 hsol' hCC' HBw HCw Hs2 MW hmx HcA HlA HR
      generalize w10.alloc (.cells #[.slice aC' n cC', .int .i64 t', .slice aU' n cU', .slice aV' k cV'] 29) = w11 at HB1 HB2 HC1 HC2 M11 ⊢
      generalize w10.heap.size = gk at HB2 ⊢
      have q0 : w11.cell? ⟨gm, 0, none⟩ = some (.slice aC n cC) := HB1.out.cell (i := 0) (by show 0 < 4; omega)
      have q1 : w11.cell? ⟨gm, 1, none⟩ = some (.int .i64 t) := HB1.out.cell (i := 1) (by show 1 < 4; omega)
      have k0 : w11.cell? ⟨gk, 0, none⟩ = some (.slice aC' n cC') := HB2.out.cell (i := 0) (by show 0 < 4; omega)
      have k1 : w11.cell? ⟨gk, 1, none⟩ = some (.int .i64 t') := HB2.out.cell (i := 1) (by show 1 < 4; omega)
      obtain ⟨_, p1, z1, ha1, hv1⟩ := HC1.out.open
      obtain rfl := ha1 (by intro e; have h9 := HSol.out.lC; rw [e] at h9; simp at h9; omega)
      obtain ⟨_, p2, z2, ha2, hv2⟩ := HC2.out.open
      obtain rfl := ha2 (by intro e; have h9 := HSol2.out.lC; rw [e] at h9; simp at h9; omega)
      have HV1 : Hid (∀ i, i < n → w11.cell? ⟨p1, z1 + i, none⟩ = some (.int .i64 (colZ K wf i))) := Lib.hid fun i hi => by
        have := hv1 i (by rw [HSol.out.lC]; exact hi)
        rw [HSol.out.eC, rowI_ix hi] at this; exact this
      have HV2 : Hid (∀ i, i < n → w11.cell? ⟨p2, z2 + i, none⟩ = some (.int .i64 (colZ k wf' i))) := Lib.hid fun i hi => by
        have := hv2 i (by rw [HSol2.out.lC]; exact hi)
        rw [HSol2.out.eC, rowI_ix hi] at this; exact this
      clear hv1 hv2 ha1 ha2
      go_wp2_with fail
      go_loopw [14] (fun i wr => ∃ p : Nat, p ≤ n ∧ i = .int .i64 p ∧ (∀ i, i < p → wf i ≠ col) ∧ Hid (wr = w11)) (fun i _ => n - (intOf i).toNat)
      case atStart => exact ⟨0, by omega, rfl, fun i hi => absurd hi (Nat.not_lt_zero i), Lib.hid rfl⟩
      case round =>
        obtain ⟨p, hp, rfl, hno, ⟨rfl⟩⟩ := hrel
        have HNo := Lib.hid hno
        clear hno
        by_cases hpn : p < n
        · have pn : (p : Int) < (n : Int) := by omega
          have v1 := HV1.out p hpn
          by_cases he : wf p = col
          · have hz : colZ K wf p = (col : Int) := by unfold colZ; rw [if_pos (by omega), he]
            rw [hz] at v1
            have ht : t ≤ t' := HD.out.1
            clear hz he
            go_wp2_with fail
            refine (awakeM_any _).mono ?_; rintro e w13 ⟨rfl, m⟩
            have M := Lib.hid (M11.out.trans m)
            clear m
            go_wp2_with fail
            go_ret
            exact ⟨rfl, M.out⟩
          · have hz : (colZ K wf p == (col : Int)) = false := beq_eq_false_iff_ne.2 (by unfold colZ; split <;> omega)
            have He := Lib.hid he
            clear he
            generalize colZ K wf p = z at v1 hz
            go_wp2_with fail
            exact ⟨⟨p + 1, by omega, by go_num, fun i hi => by
              by_cases e : i = p
              · rw [e]; exact He.out
              · exact HNo.out i (by omega), Lib.hid trivial⟩, by simp [intOf]; omega⟩
        · have HD2 := Lib.hid (HD.out.2 fun i hi => HNo.out i (by omega))
          obtain rfl : n = p := by omega
          have HNo2 := Lib.hid HNo.out
          clear hpn HNo hp
          obtain ⟨ht, _⟩ := HD2.out
          subst ht
          go_wp2_with fail
          go_loopw [15] (fun i wr => ∃ s : Nat, s ≤ n ∧ i = .int .i64 s ∧ Hid (wr = w11)) (fun i _ => n - (intOf i).toNat)
          case atStart => exact ⟨0, by omega, rfl, Lib.hid rfl⟩
          case round =>
            obtain ⟨s, hs, rfl, ⟨rfl⟩⟩ := hrel
            by_cases hsn : s < n
            · have sn : (s : Int) < (n : Int) := by omega
              have v1 := HV1.out s hsn
              have v2 := HV2.out s hsn
              have hw := HD2.out.2 s hsn
              have hne : wf s ≠ col := HNo2.out s hsn
              have hzz : (colZ k wf' s = colZ K wf s - 1 ∧ (col : Int) < colZ K wf s) ∨ (colZ k wf' s = colZ K wf s ∧ ¬ (col : Int) < colZ K wf s) := by
                have h9 := HSol.out.first.asg.lt s hsn
                unfold dropC at hw
                unfold colZ
                by_cases g1 : wf s < K
                · rw [if_pos g1]
                  by_cases g2 : col < wf s
                  · rw [if_pos g2] at hw
                    rw [if_pos (by omega), hw]; omega
                  · rw [if_neg g2] at hw
                    rw [if_pos (by omega), hw]; omega
                · rw [if_neg g1]
                  rw [if_pos (by omega)] at hw
                  rw [if_neg (by omega)]
                  omega
              have hzl : -1 ≤ colZ K wf s ∧ colZ K wf s ≤ 100 := by unfold colZ; split <;> omega
              clear hne hw
              generalize colZ K wf s = z at v1 hzz hzl
              generalize colZ k wf' s = z' at v2 hzz
              obtain ⟨z0, z9⟩ := hzl
              rcases hzz with ⟨rfl, hz⟩ | ⟨rfl, hz⟩
              all_goals
                go_wp2_with fail
                exact ⟨⟨s + 1, by omega, by go_num, Lib.hid trivial⟩, by simp [intOf]; omega⟩
            · go_wp2_with fail
              refine (awakeM_any _).mono ?_; rintro e w13 ⟨rfl, m⟩
              have M := Lib.hid (M11.out.trans m)
              clear m
              go_wp2_with fail
              go_ret
              exact ⟨rfl, M.out⟩

theorem matchDrops_fin (a : Option Addr) (c : Nat) (C : List (List Int)) {w : World} (hx : Mixes Any w a C) (_ : C.length ≤ c) (_ : ∀ k y, y ∈ rx C k → I64 y) (hcap : Caps w a C.length) (b : Option Addr) (d : Nat) (sk : List Int) (hs : Ints Any w b sk) (_ : sk.length ≤ d) (_ : ∀ x ∈ sk, I64 x)
    (col : Int) (_ : I64 col) (_ : World) :
    Calls Try.prog 9 #[.slice a C.length c, .slice b sk.length d, .int .i64 col] w fun e w' => e = .returned (.bool true) ∧ Mod NoBlock w w' := by
  by_cases h : Lit C sk ∧ chkM C sk = 0 ∧ 0 < C.length ∧ 0 ≤ col ∧ col < (rx C 0).length
  · obtain ⟨h1, h2, h3, h4, h5⟩ := h
    obtain ⟨r, rfl⟩ : ∃ r : Nat, col = r := ⟨col.toNat, by omega⟩
    exact matchDrops_in a c C hx hcap b d sk hs r h1 h2 h3 (by omega)
  · exact matchDrops_out a c C hx b d sk hs col h

end Go.Proofs.Ytddjkmaigifomaa
