/-
  match: the law MatchShifts walked, the main way.
-/
import Derived.Test.YtddjkmaigifomaaSd
set_option linter.unusedVariables false
set_option linter.unusedSimpArgs false
namespace Go.Proofs.Ytddjkmaigifomaa
open Go.RowKit

set_option maxRecDepth 100000 in
set_option maxHeartbeats 12800000 in
theorem matchShifts_in (a : Option Addr) (c : Nat) (C : List (List Int)) {w : World} (hx : Mixes Any w a C) (b : Option Addr) (d : Nat) (sk : List Int) (hs : Ints Any w b sk) (r : Nat) (dl : Int)
    (hl : Lit C sk) (hok : chkM C sk = 0) (hr : r < C.length) (d0 : 0 ≤ dl) (d1 : dl ≤ 1000000) :
    Calls Try.prog 8 #[.slice a C.length c, .slice b sk.length d, .int .i64 r, .int .i64 dl] w fun e w' => e = .returned (.bool true) ∧ Mod NoBlock w w' := by
  have HC := Lib.hid hx
  have HS := Lib.hid hs
  clear hx hs
  have Hl := Lib.hid (light_yes (c := c) (d := d) HC.out HS.out hl)
  have hk := check_any (c := c) (d := d) HC.out HS.out
  rw [hok] at hk
  have Hk := Lib.hid hk
  have HP := Lib.hid (probOk hok)
  rw [HP.out.len] at Hk Hl ⊢
  have Hs := Lib.hid fun (w' : World) (m : Mod NoBlock w w') => solve_sol (n := C.length) (k := (rx C 0).length) (c := c) (d := d) (HC.out.frame m) (HS.out.frame m) hok rfl rfl
  obtain ⟨n, hn⟩ : ∃ n, C.length = n := ⟨_, rfl⟩
  obtain ⟨k, hk9⟩ : ∃ k, (rx C 0).length = k := ⟨_, rfl⟩
  rw [hn] at HP Hs Hl Hk hr ⊢
  rw [hk9] at HP Hs
  have n24 := HP.out.n24
  have k24 := HP.out.k24
  have r1 : (r : Int) < (n : Int) := by omega
  have Hcp := Lib.hid (refCopy_any (c := c) HC.out HP.out.rect (by omega) (by omega))
  have Hel := Lib.hid elemInt1
  have rz : decide ((r : Int) < 0) = false := decide_eq_false (by omega)
  have dz : decide (dl < 0) = false := decide_eq_false (by omega)
  clear hl hok hk hn hk9
  go_enter Try.func8, Try.ntmps8
  go_wp2_with fail
  refine Hl.out.mono ?_; rintro e w1 ⟨rfl, rfl⟩
  go_wp2_with fail
  refine Hk.out.mono ?_; rintro e w1 ⟨rfl, rfl⟩
  go_upto_region 4 with (go_at_call 21; refine Hcp.out.mono ?_; rintro e w1 ⟨a1, c1, ad, rc, rfl, hcp⟩)
  clear Hcp Hl Hk
  obtain ⟨g1, rfl, -, -⟩ := hcp.hdr hr
  have G1 := Lib.hid hcp
  have HS1 := Lib.hid (HS.out.frame hcp.mod)
  have Hvl : Hid ((sk.map (Value.int .i64)).length = n) := Lib.hid (by rw [List.length_map]; exact HP.out.len)
  clear hcp
  go_upto_region 6 with (at_builtin; refine wpList_append1 (vs := []) rfl (.tmp 53) (.tmp 54) _ rfl Hel.out 0 n n d (sk.map (Value.int .i64)) rfl rfl rfl Hvl.out.symm (by omega) (Own.nil _ w1.heap.size _) (Src.ints HS1.out) (ints_one _) (by simp only [maxLen]; omega) (by omega) (Nat.le_refl _) ?_; intro a4 c4 w4 hown4 hgrow4 hat4)
  rw [List.nil_append, rowV_of_ints, HP.out.len] at hown4
  obtain ⟨gs, rfl, hgs, -⟩ := hown4.addr (by omega)
  have HO := Lib.hid hown4
  have HM := Lib.hid (show Mod NoBlock w1 w4 from (Mod.refl _ _).grown hgrow4 (fun k e => by cases e))
  clear hown4 hgrow4 hat4 HS1
  have hsk := HP.out.skip r hr
  obtain ⟨e1, e2⟩ := HO.out.cellAt (j := r) hr
  obtain ⟨y, hy⟩ : ∃ y, ix sk r = y := ⟨_, rfl⟩
  rw [hy] at e1 hsk
  have Hy := Lib.hid hy
  obtain ⟨y0, y1⟩ := hsk
  have wy : IntKind.i64.wrap (y + dl) = y + dl := IntWalk.i64_in _ (by omega)
  clear hy
  go_upto_region 7 with fail
  clear e1 e2 wy
  have HO6 := Lib.hid (HO.out.set (k := r) (v := y + dl) (F' := shS sk r dl) (fun _ => by unfold shS; rw [if_pos rfl, Hy.out]) (fun j _ hj => by unfold shS; rw [if_neg hj]))
  have HM6 : Hid (Mod NoBlock w1 (w4.setCell ⟨gs, r, none⟩ (.int .i64 (y + dl)))) := Lib.hid (HM.out.setCell (p := ⟨gs, r, none⟩) (.inr hgs) _)
  have G6 := Lib.hid (G1.out.frame HM6.out)
  have Hs6 := Lib.hid HM6.out.size
  clear HM HO HM6
  generalize w4.setCell ⟨gs, r, none⟩ (.int .i64 (y + dl)) = w6 at HO6 G6 Hs6 ⊢
  clear w4
  have Hs1 : Hid (∀ r, r < n → ∀ x, ad r = some ⟨x, 0, none⟩ → x < w1.heap.size) := Lib.hid fun r hr x hx => by
    have := G1.out.rows r hr
    exact (this.lt (k := x) (by rw [hx]; rfl)).2
  go_wp2_with fail
  go_loopw [11] (fun i wr => ∃ j : Nat, j ≤ k ∧ i = .int .i64 j ∧ CP w wr (some ⟨g1, 0, none⟩) c1 n k (shT C r dl j) ad rc ∧ Mod (fun b => b < w1.heap.size) w6 wr) (fun i _ => k - (intOf i).toNat)
  case atStart => exact ⟨0, by omega, rfl, G6.out.congr (fun i _ q _ => by unfold shT; rw [if_neg (fun h => by omega)]), Mod.refl _ _⟩
  case round =>
    clear G6
    obtain ⟨j, hj, rfl, hcp, hm⟩ := hrel
    have G := Lib.hid hcp
    have M := Lib.hid hm
    clear hcp hm
    obtain ⟨wo, rfl⟩ : ∃ wo : World, wo = wr := ⟨_, rfl⟩
    have e0 := G.out.hdrAt hr
    by_cases hjk : j < k
    · have j1 : (j : Int) < (k : Int) := by omega
      have hrow := G.out.rows r hr
      obtain ⟨x, hx, -, -⟩ := hrow.addr (by omega)
      rw [hx] at hrow e0
      obtain ⟨e1, e2⟩ := hrow.cellAt (j := j) hjk
      have Hx := Lib.hid hx
      have hc := HP.out.cost r hr j hjk
      rw [show shT C r dl j r j = ix (rx C r) j from if_neg (fun h => by omega)] at e1
      obtain ⟨z, hz⟩ : ∃ z, ix (rx C r) j = z := ⟨_, rfl⟩
      rw [hz] at e1 hc
      have Hz := Lib.hid hz
      obtain ⟨z0, z1⟩ := hc
      have wz : IntKind.i64.wrap (z + dl) = z + dl := IntWalk.i64_in _ (by omega)
      clear hz hx hrow
      by_cases hz0 : 0 ≤ z
      · have Gz := Lib.hid (G.out.set (k := j) (y := z + dl) (T' := shT C r dl (j + 1)) hr Hx.out (fun _ => by unfold shT; rw [if_pos ⟨rfl, by omega, by rw [Hz.out]; exact hz0⟩, Hz.out]) (fun q _ hq => by
            unfold shT
            by_cases h : q < j ∧ 0 ≤ ix (rx C r) q
            · rw [if_pos ⟨rfl, h⟩, if_pos ⟨rfl, by omega, h.2⟩]
            · rw [if_neg (fun h9 => h h9.2), if_neg (fun h9 => h ⟨by omega, h9.2.2⟩)]) (fun r' _ hne q _ => by unfold shT; rw [if_neg (fun h => hne h.1), if_neg (fun h => hne h.1)]))
        have Mz := Lib.hid (M.out.setCell (p := ⟨x, j, none⟩) (.inl (Hs1.out r hr x Hx.out)) (.int .i64 (z + dl)))
        go_upto_region 11 with fail
        go_region
        clear e0 e1 e2
        have Gz2 := Lib.hid Gz.out.drew
        have Mz2 := Lib.hid Mz.out.drew
        generalize (wo.setCell ⟨x, j, none⟩ (.int .i64 (z + dl))).drew = w8 at Gz2 Mz2 ⊢
        go_wp2_with fail
        exact ⟨⟨j + 1, by omega, by go_num, Gz2.out, Mz2.out⟩, by simp [intOf]; omega⟩
      · have HG2 := Lib.hid (G.out.congr (T' := shT C r dl (j + 1)) fun i hi q _ => by
          unfold shT
          by_cases h : i = r ∧ q < j ∧ 0 ≤ ix (rx C i) q
          · rw [if_pos h, if_pos ⟨h.1, by omega, h.2.2⟩]
          · rw [if_neg h, if_neg (fun h9 => by
              by_cases e : q = j
              · obtain ⟨h91, _, h92⟩ := h9
                rw [h91, e, Hz.out] at h92; exact hz0 h92
              · exact h ⟨h9.1, by omega, h9.2.2⟩)])
        go_wp2_with fail
        exact ⟨⟨j + 1, by omega, by go_num, HG2.out, M.out⟩, by simp [intOf]; omega⟩
    · obtain rfl : k = j := by omega
      clear hjk hj
      have hmx := G.out.mixes (by simp only [maxLen]; omega) (by simp only [maxLen]; omega)
      have hos := HO6.out.mod M.out (fun b e e2 => by have e : gs = b := Option.some_inj.1 e; omega)
      rw [rowV_map] at hos
      have his : Ints (fun b => w1.heap.size ≤ b) wo (some ⟨gs, 0, none⟩) (rowI n (shS sk r dl)) := hos.ints (fun b hb _ => hb) (by rw [rowI_length]; simp only [maxLen]; omega)
      have Hmx := Lib.hid hmx
      have His := Lib.hid his
      have MW := Lib.hid G.out.mod
      have HcA : Hid (∀ i, i < n → ∀ j, j < k → ix (rx (rowsI n k (shT C r dl k)) i) j = if i = r ∧ 0 ≤ ix (rx C i) j then ix (rx C i) j + dl else ix (rx C i) j) := Lib.hid fun i hi j hj => by
        rw [rowsI_rx hi, rowI_ix hj]
        unfold shT
        by_cases h : i = r ∧ 0 ≤ ix (rx C i) j
        · rw [if_pos ⟨h.1, hj, h.2⟩, if_pos h]
        · rw [if_neg (fun h9 => h ⟨h9.1, h9.2.2⟩), if_neg h]
      have HsA : Hid (∀ i, i < n → ix (rowI n (shS sk r dl)) i = if i = r then ix sk i + dl else ix sk i) := Lib.hid fun i hi => by rw [rowI_ix hi]; rfl
      have HlA : Hid ((rowsI n k (shT C r dl k)).length = n) := Lib.hid (rowsI_length _ _ _)
      have HlB : Hid ((rowI n (shS sk r dl)).length = n) := Lib.hid (rowI_length _ _)
      have HlC : Hid ((rx (rowsI n k (shT C r dl k)) 0).length = k) := Lib.hid (by rw [rowsI_rx (by omega), rowI_length])
      clear hos hmx his G M HO6 Hs6 Hs1 G1
      generalize rowsI n k (shT C r dl k) = C' at Hmx HcA HlA HlC
      generalize rowI n (shS sk r dl) = sk' at His HsA HlB
      have hck := check_any (c := c1) (d := c4) Hmx.out His.out
      rw [HlA.out, HlB.out] at hck
      have Hck := Lib.hid hck
      clear hck
      go_upto_region 12 with fail
      clear e0
      by_cases hok' : chkM C' sk' = 0
      case neg =>
        have hb : (chkM C' sk' != 0) = true := bne_iff_ne.2 hok'
        clear hok'
        go_wp2_with fail
        refine Hck.out.mono ?_; rintro e w1 ⟨rfl, rfl⟩
        go_wp2_with fail
        refine (awakeM_any _).mono ?_; rintro e w9 ⟨rfl, m⟩
        have M := Lib.hid (MW.out.trans m)
        clear m
        go_wp2_with fail
        go_ret
        exact ⟨rfl, M.out⟩
      have hP' := probOk hok'
      rw [HlA.out, HlC.out] at hP'
      have HP' := Lib.hid hP'
      have Hs2 := Lib.hid fun (w' : World) (m : Mod NoBlock wo w') => solve_sol (n := n) (k := k) (c := c1) (d := c4) (Hmx.out.frame m) (His.out.frame m) hok' HlA.out HlC.out
      have HsW := Lib.hid (Hs.out wo MW.out)
      rw [hok'] at Hck
      clear hok' hP' Hs
      go_upto_region 14 with (go_at_call 11; refine Hck.out.mono ?_; rintro e w1 ⟨rfl, rfl⟩)
      go_upto_region 15 with (go_at_call 14; refine HsW.out.mono ?_; rintro e w8 ⟨t, wf, cols, U, V, aC, cC, aU, cU, aV, cV, rfl, m8, hsol, hCC, -, -⟩)
      clear Hck HsW
      have m9 := m8.alloc (.cells #[.slice aC n cC, .int .i64 t, .slice aU n cU, .slice aV k cV] 29)
      have HB := Lib.hid (rowIs_new w8 #[.slice aC n cC, .int .i64 t, .slice aU n cU, .slice aV k cV] 29)
      have HSol := Lib.hid hsol
      have HCc := Lib.hid (hCC.alloc (.cells #[.slice aC n cC, .int .i64 t, .slice aU n cU, .slice aV k cV] 29))
      have M9 := Lib.hid m9
      clear m8 m9 hsol hCC
      generalize w8.alloc (.cells #[.slice aC n cC, .int .i64 t, .slice aU n cU, .slice aV k cV] 29) = w9 at HB HCc M9 ⊢
      generalize w8.heap.size = gm at HB ⊢
      have Hs3 := Lib.hid (Hs2.out w9 M9.out)
      clear Hs2
      go_upto_region 16 with (go_at_call 14; refine Hs3.out.mono ?_; rintro e w10 ⟨t', wf', cols', U', V', aC', cC', aU', cU', aV', cV', rfl, m10, hsol', hCC', -, -⟩)
      have m11 := m10.alloc (.cells #[.slice aC' n cC', .int .i64 t', .slice aU' n cU', .slice aV' k cV'] 29)
      have HB2 := Lib.hid (rowIs_new w10 #[.slice aC' n cC', .int .i64 t', .slice aU' n cU', .slice aV' k cV'] 29)
      obtain ⟨ht, hw⟩ := first_shift (wide_ok HP.out) (wide_ok HP'.out) hr (tab_shift HP.out hr HcA.out HsA.out d0) HSol.out.first hsol'.first
      have hcols : cols' = cols := by
        rw [hsol'.eC, HSol.out.eC]
        unfold rowI
        refine List.map_congr_left fun i hi => ?_
        unfold colZ
        rw [hw i (List.mem_range.1 hi)]
      subst hcols
      subst ht
      have HB1 := Lib.hid (HB.out.of_block (m11.block _ HB.out.lt id))
      have hsm := rsame10_any aC' aC cC' cC cols' cols' _ _ _ (hCC'.alloc (.cells #[.slice aC' n cC', .int .i64 (t + dl), .slice aU' n cU', .slice aV' k cV'] 29)) (HCc.out.frame m11)
      rw [hsol'.lC, decide_eq_true (rfl : cols' = cols')] at hsm
      have Hsm := Lib.hid hsm
      have M11 := Lib.hid (MW.out.trans (M9.out.trans m11))
      obtain ⟨t0, t1⟩ := HSol.out.bounds HP.out
      clear m10 m11 hsol' hCC' hw hsm HB HCc Hs3 M9
      generalize w10.alloc (.cells #[.slice aC' n cC', .int .i64 (t + dl), .slice aU' n cU', .slice aV' k cV'] 29) = w11 at HB1 HB2 Hsm M11 ⊢
      generalize w10.heap.size = gk at HB2 ⊢
      have q0 : w11.cell? ⟨gm, 0, none⟩ = some (.slice aC n cC) := HB1.out.cell (i := 0) (by show 0 < 4; omega)
      have q1 : w11.cell? ⟨gm, 1, none⟩ = some (.int .i64 t) := HB1.out.cell (i := 1) (by show 1 < 4; omega)
      have k0 : w11.cell? ⟨gk, 0, none⟩ = some (.slice aC' n cC') := HB2.out.cell (i := 0) (by show 0 < 4; omega)
      have k1 : w11.cell? ⟨gk, 1, none⟩ = some (.int .i64 (t + dl)) := HB2.out.cell (i := 1) (by show 1 < 4; omega)
      have wt : IntKind.i64.wrap (t + dl) = t + dl := IntWalk.i64_in _ (by omega)
      go_wp2_with fail
      refine Hsm.out.mono ?_; rintro e w12 ⟨rfl, hd12⟩
      have M12 := Lib.hid (M11.out.drawn hd12)
      clear q0 q1 k0 k1 hd12 wt
      go_wp2_with fail
      refine (awakeM_any _).mono ?_; rintro e w13 ⟨rfl, m⟩
      have M := Lib.hid (M12.out.trans m)
      clear m
      go_wp2_with fail
      go_ret
      exact ⟨rfl, M.out⟩

theorem matchShifts_fin (a : Option Addr) (c : Nat) (C : List (List Int)) {w : World} (hx : Mixes Any w a C) (_ : C.length ≤ c) (_ : ∀ k y, y ∈ rx C k → I64 y) (b : Option Addr) (d : Nat) (sk : List Int) (hs : Ints Any w b sk) (_ : sk.length ≤ d) (_ : ∀ x ∈ sk, I64 x)
    (row : Int) (_ : I64 row) (dl : Int) (_ : I64 dl) (_ : World) :
    Calls Try.prog 8 #[.slice a C.length c, .slice b sk.length d, .int .i64 row, .int .i64 dl] w fun e w' => e = .returned (.bool true) ∧ Mod NoBlock w w' := by
  by_cases h : Lit C sk ∧ chkM C sk = 0 ∧ 0 ≤ row ∧ row < C.length ∧ 0 ≤ dl ∧ dl ≤ 1000000
  · obtain ⟨h1, h2, h3, h4, h5, h6⟩ := h
    obtain ⟨r, rfl⟩ : ∃ r : Nat, row = r := ⟨row.toNat, by omega⟩
    exact matchShifts_in a c C hx b d sk hs r dl h1 h2 (by omega) h5 h6
  · exact matchShifts_out a c C hx b d sk hs row dl h

end Go.Proofs.Ytddjkmaigifomaa
