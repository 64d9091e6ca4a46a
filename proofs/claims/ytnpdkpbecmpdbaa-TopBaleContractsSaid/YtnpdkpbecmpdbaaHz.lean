/-
  match: the code's wide table.
-/
import Derived.Test.YtnpdkpbecmpdbaaHy
import Derived.Test.YtnpdkpbecmpdbaaHt
set_option linter.unusedVariables false
set_option linter.unusedSimpArgs false
namespace Go.Proofs.Ytnpdkpbecmpdbaa
open Go.RowKit

theorem infoIntsM : (Try.prog.info? 31).map (fun i => (i.zero, i.size, i.bytes)) = some (some (.slice none 0 0), 1, 24) := by kernel_rfl

/-- Costs: n rows of k numbers each. -/
def Rect (C : List (List Int)) (n k : Nat) : Prop := C.length = n ∧ ∀ r, r < n → (rx C r).length = k

theorem columns_any {D : Nat → Prop} {w : World} {a : Option Addr} {c : Nat} {C : List (List Int)} {n k : Nat} (h : Mixes D w a C) (hR : Rect C n k) (h0 : n = 0 → k = 0) :
    Calls Try.prog 55 #[.slice a n c] w fun e w' => e = .returned (.int .i64 k) ∧ w = w' := by
  by_cases hn : 0 < n
  · obtain ⟨b, off, a', c', rfl, hD, hc, hI⟩ := h.row (k := 0) (by rw [hR.1]; exact hn)
    rw [hR.2 0 hn, Nat.add_zero] at hc
    have hi : (0 : Int) < (n : Int) := by omega
    clear h hR h0
    go_enter Try.func55, Try.ntmps55
    go_wp2_with fail
    go_ret
    exact ⟨rfl, rfl⟩
  · obtain rfl : n = 0 := by omega
    obtain rfl := h0 rfl
    clear h hR hn h0
    go_enter Try.func55, Try.ntmps55
    go_wp2_with fail
    go_ret
    exact ⟨rfl, rfl⟩

set_option maxRecDepth 100000 in
set_option maxHeartbeats 6400000 in
theorem widened_any {D E : Nat → Prop} {w : World} {a b : Option Addr} {c d : Nat} {C : List (List Int)} {sk : List Int} {n k : Nat} (h : Mixes D w a C) (hR : Rect C n k) (hs : Ints E w b sk) (hsl : sk.length = n) (hk0 : n = 0 → k = 0) (hn9 : n ≤ 30) (hk9 : k ≤ 30) :
    Calls Try.prog 56 #[.slice a n c, .slice b n d] w fun e w' => ∃ g ra ro rc, e = .returned (.slice (some ⟨g, 0, none⟩) n n) ∧ GR w w' 31 g n (k + n) (fun r => r < n) (wideT (fun i j => ix (rx C i) j) (ix sk) k) ra ro rc := by
  obtain ⟨K, hK⟩ : ∃ K, K = k + n := ⟨_, rfl⟩
  rw [← hK]
  have hK9 : (k : Int) + (n : Int) = (K : Int) := by omega
  have hmk := run_make_row' (P := Try.prog) 31 3 (.int .i64 0) 8 Try.underlying31 infoIntM rfl .i64 .i64 K (by omega) (by omega)
  have hmk2 := run_make_row' (P := Try.prog) 22 31 (.slice none 0 0) 24 Try.underlying22 infoIntsM rfl .i64 .i64 n (by omega) (by omega)
  have HC := Lib.hid h
  have HR := Lib.hid hR
  have HSk := Lib.hid hs
  have HSl := Lib.hid hsl
  have H0 := Lib.hid hk0
  have G0 : Hid (GR w (w.alloc (.cells (madeCells #[.slice none 0 0] n) 31)) 31 w.heap.size n K (fun r => r < 0) (wideT (fun i j => ix (rx C i) j) (ix sk) k) (fun _ => 0) (fun _ => 0) (fun _ => 0)) := Lib.hid
    ⟨(Mod.refl _ w).alloc _, Nat.le_refl _, ⟨_, World.rowIs_made w (.slice none 0 0) n 31, fun r hr => absurd hr (Nat.not_lt_zero r)⟩, fun r hr => absurd hr (Nat.not_lt_zero r), fun r hr => absurd hr (Nat.not_lt_zero r)⟩
  have HKe := Lib.hid hK
  have hKk : (k : Int) ≤ (K : Int) := by omega
  have hK2 : (K : Int) ≤ 60 := by omega
  clear h hR hs hsl hk0 hK
  go_enter Try.func56, Try.ntmps56
  go_wp2_with (go_at_call 55; refine (columns_any HC.out HR.out H0.out).mono ?_; rintro e w9 ⟨rfl, rfl⟩)
  clear hmk2
  generalize w.alloc (.cells (madeCells #[.slice none 0 0] n) 31) = w1 at G0 ⊢
  obtain ⟨g, hg⟩ : ∃ g, w.heap.size = g := ⟨_, rfl⟩
  rw [hg] at G0 ⊢
  clear hg
  go_loopw [17] (fun i wr => ∃ (q : Nat) (ra ro rc : Nat → Nat), q ≤ n ∧ i = .int .i64 q ∧ GR w wr 31 g n K (fun r => r < q) (wideT (fun i j => ix (rx C i) j) (ix sk) k) ra ro rc) (fun i _ => n - (intOf i).toNat)
  case atStart => exact ⟨0, _, _, _, by omega, rfl, G0.out⟩
  case round =>
    clear G0
    clear w1
    obtain ⟨q, ra, ro, rc, hq, rfl, hgr⟩ := hrel
    have G := Lib.hid hgr
    clear hgr
    obtain ⟨wo, rfl⟩ : ∃ wo : World, wo = wr := ⟨_, rfl⟩
    by_cases hlt : q < n
    · obtain ⟨b1, off1, a1, c1, rfl, hD1, hc1, hI1⟩ := HC.out.row (k := q) (by rw [HR.out.1]; exact hlt)
      have hc1 := G.out.mod.cell hc1 id
      rw [HR.out.2 q hlt] at hc1
      have HI := Lib.hid hI1
      clear hI1 hD1
      have q1 : (q : Int) < (n : Int) := by omega
      have hx := World.rowIs_made wo (.int .i64 0) K 3
      have G1 := (G.out.alloc (.cells (madeCells #[.int .i64 0] K) 3))
      obtain ⟨v1, hv1⟩ := G1.ex (k := q) hlt
      have f1 := G1.frz q
      have Gx := Lib.hid (G1.put (i := q) (x := wo.heap.size) (F := fun _ => 0) hlt (Nat.lt_irrefl q) hx ⟨G.out.mod.size, fun e => by have := G.out.glt; omega⟩ (fun r hr e => by have := (G.out.rows r hr).2.1; omega))
      clear G1 hx
      go_upto_region 7 with fail
      generalize ((wo.alloc (.cells (madeCells #[.int .i64 0] K) 3)).setCell ⟨g, q, none⟩ (.slice (some ⟨wo.heap.size, 0, none⟩) K K)) = w2 at Gx ⊢
      generalize wo.heap.size = x at Gx ⊢
      clear hv1 f1 hc1
      have hd := Gx.out.hd
      go_wp2_with fail
      obtain ⟨W1, hW1⟩ : ∃ W1 : Nat → Int, W1 = fun j => if j < k then (if ix (rx C q) j = -1 then far else ix (rx C q) j) else far := ⟨_, rfl⟩
      have HW := Lib.hid (fun j => congrFun hW1 j)
      clear hW1 hd
      go_loopw [35] (fun i wr => ∃ j : Nat, j ≤ K ∧ i = .int .i64 j ∧ GX w wr 31 g n K (fun r => r < q) (wideT (fun i j => ix (rx C i) j) (ix sk) k) ra ro rc q x (midF W1 (fun _ => 0) j)) (fun i _ => K - (intOf i).toNat)
      case atStart => exact ⟨0, by omega, rfl, Gx.out.congr (fun j _ => by rw [midF_ge (Nat.not_lt_zero j)])⟩
      case round =>
        clear Gx
        clear w2
        obtain ⟨j, hj, rfl, hgx⟩ := hrel
        have Gx := Lib.hid hgx
        clear hgx
        obtain ⟨wp, rfl⟩ : ∃ wp : World, wp = wr := ⟨_, rfl⟩
        have hd := Gx.out.hd
        by_cases hjK : j < K
        · have hc := Gx.out.at hjK
          rw [midF_ge (by omega)] at hc
          have hf := Gx.out.row.frozen j
          have j1 : (j : Int) < (K : Int) := by omega
          go_upto_region 11 with fail
          have Gy := Lib.hid (Gx.out.set (k := j) (y := 1099511627776) (F' := fun q => if q = j then far else midF W1 (fun _ => 0) j q) (fun _ => by show _ = if j = j then far else _; rw [if_pos rfl]; rfl) (fun q _ hq => by show _ = if q = j then far else _; rw [if_neg hq]))
          generalize wp.setCell ⟨x, j, none⟩ (.int .i64 1099511627776) = w3 at Gy ⊢
          clear Gx hd hc hf
          have Hfin : Hid (∀ q, q ≠ j → midF W1 (fun _ => 0) j q = midF W1 (fun _ => 0) (j + 1) q) := Lib.hid fun q hq => midF_step hq
          by_cases hjk : j < k
          · have j2 : (j : Int) < (k : Int) := by omega
            obtain ⟨_, b2, o2, ha2, hc2⟩ := HI.out.open
            obtain rfl := ha2 (by intro e; have := HR.out.2 q hlt; rw [e] at this; simp at this; omega)
            have hc3 := Gy.out.gr.mod.cell (hc2 j (by rw [HR.out.2 q hlt]; exact hjk)) id
            have Hv := Lib.hid (HW.out j)
            clear hc2 ha2
            generalize ix (rx C q) j = y at hc3 Hv
            by_cases hy : y = -1
            · have Hv2 : Hid (W1 j = far) := Lib.hid (by rw [Hv.out]; show (if j < k then (if y = -1 then far else y) else far) = far; rw [if_pos hjk, if_pos hy])
              subst hy
              clear Hv
              go_wp2_with fail
              exact ⟨⟨j + 1, by omega, by go_num, Gy.out.congr (fun q _ => by
                by_cases e : q = j
                · rw [e, midF_at, Hv2.out, if_pos rfl]
                · rw [if_neg e]; exact Hfin.out q e)⟩, by simp [intOf]; omega⟩
            · have Hv2 : Hid (W1 j = y) := Lib.hid (by rw [Hv.out]; show (if j < k then (if y = -1 then far else y) else far) = y; rw [if_pos hjk, if_neg hy])
              have hyb : (y != -1) = true := by simpa using hy
              clear Hv hy
              have hd := Gy.out.hd
              have hc := Gy.out.at hjK
              have hf := Gy.out.row.frozen j
              go_upto_region 12 with fail
              go_region
              have Gz := Lib.hid (Gy.out.set (k := j) (y := y) (F' := midF W1 (fun _ => 0) (j + 1)) (fun _ => by rw [midF_at, Hv2.out]) (fun q _ hq => by show (if q = j then far else _) = _; rw [if_neg hq]; exact Hfin.out q hq)).drew
              generalize (w3.setCell ⟨x, j, none⟩ (.int .i64 y)).drew = w4 at Gz ⊢
              clear hd hc hf hc3
              go_wp2_with fail
              exact ⟨⟨j + 1, by omega, by go_num, Gz.out⟩, by simp [intOf]; omega⟩
          · have Hv2 : Hid (W1 j = far) := Lib.hid (by rw [HW.out]; show (if j < k then _ else far) = far; rw [if_neg hjk])
            have j2 : (k : Int) ≤ (j : Int) := by omega
            go_wp2_with fail
            exact ⟨⟨j + 1, by omega, by go_num, Gy.out.congr (fun q _ => by
              by_cases e : q = j
              · rw [e, midF_at, Hv2.out, if_pos rfl]
              · rw [if_neg e]; exact Hfin.out q e)⟩, by simp [intOf]; omega⟩
        · obtain rfl : j = K := by omega
          clear hjK hj
          obtain ⟨_, b2, o2, ha2, hc2⟩ := HSk.out.open
          obtain rfl := ha2 (by intro e; have := HSl.out; rw [e] at this; simp at this; omega)
          have hc3 := Gx.out.gr.mod.cell (hc2 q (by rw [HSl.out]; exact hlt)) id
          clear hc2 ha2
          have l1 : (k : Int) + (q : Int) < (j : Int) := by have := HKe.out; omega
          have l2 : k + q < j := by have := HKe.out; omega
          have hc := Gx.out.at l2
          have hf := Gx.out.row.frozen (k + q)
          go_upto_region 14 with fail
          go_region
          have Gz := Lib.hid ((Gx.out.set (k := k + q) (y := ix sk q) (F' := wideT (fun i j => ix (rx C i) j) (ix sk) k q) (fun _ => by unfold wideT; rw [if_neg (by omega), if_pos rfl])
            (fun p hp hpq => by rw [midF_lt hp, HW.out]; unfold wideT; by_cases hpk : p < k
                                · rw [if_pos hpk, if_pos hpk]
                                · rw [if_neg hpk, if_neg hpk, if_neg hpq])).drew.done (P' := fun r => r < q + 1) (T' := wideT (fun i j => ix (rx C i) j) (ix sk) k) (fun r hr => by omega) (fun _ _ _ _ _ => rfl) (fun _ _ => rfl))
          generalize (wp.setCell ⟨x, k + q, none⟩ (.int .i64 (ix sk q))).drew = w4 at Gz ⊢
          clear Gx hd hc hf hc3
          go_wp2_with fail
          exact ⟨⟨q + 1, _, _, _, by omega, by go_num, Gz.out⟩, by simp [intOf]; omega⟩
    · obtain rfl : q = n := by omega
      go_wp2_with fail
      go_ret
      exact ⟨g, ra, ro, rc, rfl, G.out⟩

set_option maxRecDepth 100000 in
set_option maxHeartbeats 6400000 in
theorem only_any {D : Nat → Prop} {w : World} {ba oa ca n K i j : Nat} {T : Nat → Nat → Int} {ra ro rc : Nat → Nat} (hT : Tab D w ba oa n K T ra ro rc) (hi : i < n) (hj : j < K) (hn9 : n ≤ 60) (hk9 : K ≤ 60) :
    Calls Try.prog 59 #[.slice (some ⟨ba, oa, none⟩) n ca, .int .i64 i, .int .i64 j] w fun e w' => ∃ g cg ra' ro' rc', e = .returned (.slice (some ⟨g, 0, none⟩) n cg) ∧ Mod NoBlock w w' ∧ Tab (fun b => D b ∨ w.heap.size ≤ b) w' g 0 n K (oneRow T i j) ra' ro' rc' := by
  have hmk := run_make_row' (P := Try.prog) 31 3 (.int .i64 0) 8 Try.underlying31 infoIntM rfl .i64 .i64 K (by omega) (by omega)
  have elemInts : Elem1 Try.prog 22 31 24 := Elem1.mk Try.underlying22 infoIntsM rfl
  obtain ⟨vs, hvs⟩ : ∃ vs : List Value, vs = (List.range n).map fun r => .slice (some ⟨ra r, ro r, none⟩) K (rc r) := ⟨_, rfl⟩
  have hvl : vs.length = n := by rw [hvs]; simp
  have hvk : ∀ r, r < n → vs[r]? = some (.slice (some ⟨ra r, ro r, none⟩) K (rc r)) := fun r hr => by rw [hvs]; simp [hr]
  have hone : ∀ u ∈ vs, u.oneCell' = true := fun u hu => by
    rw [hvs] at hu
    simp only [List.mem_map] at hu
    obtain ⟨r, _, rfl⟩ := hu
    rfl
  have hsrc : Src w (some ⟨ba, oa, none⟩) vs := fun _ => ⟨_, rfl, fun r u hu => by
    by_cases hr : r < n
    · rw [hvk r hr] at hu
      injection hu with hu
      rw [add_plain, ← hu]; exact hT.rows r hr
    · rw [List.getElem?_eq_none (by omega)] at hu; cases hu⟩
  have HT := Lib.hid hT
  have Hvl := Lib.hid hvl
  have Hvk := Lib.hid hvk
  have Hone := Lib.hid hone
  have Hsrc := Lib.hid hsrc
  have He := Lib.hid elemInts
  have i1 : (i : Int) < (n : Int) := by omega
  have j1 : (j : Int) < (K : Int) := by omega
  have Hmk := Lib.hid hmk
  clear hT hvs hvl hvk hone hsrc elemInts hmk
  go_enter Try.func59, Try.ntmps59
  go_upto_region 2 with (at_builtin; refine wpList_append1 (vs := []) rfl (.tmp 9) (.tmp 10) _ rfl He.out 0 n n ca vs rfl rfl rfl Hvl.out.symm (by omega) (Own.fresh w w.heap.size 31 (Nat.le_refl _) #[] (by decide)) (Hsrc.out.alloc _) Hone.out (by simp only [maxLen]; omega) (by omega) (by simp) ?_; intro a1 c1 w1 hown1 hgrow1 hat1)
  obtain ⟨g, M, f, rfl, hg, hrow, hlen, hcM, hf⟩ := hown1.rowIs (by intro e; have := Hvl.out; rw [List.nil_append] at e; rw [e] at this; simp at this; omega)
  rw [List.nil_append, Hvl.out] at hlen
  rw [List.nil_append] at hf
  have hm1 : Mod NoBlock w w1 := ((Mod.refl NoBlock w).alloc (.cells #[] 31)).grown hgrow1 (fun k hk => .inr (by have h9 : w.heap.size = k := Option.some_inj.1 hk; omega))
  have hgr : GR w w1 31 g M K (fun r => r < n ∧ r ≠ i) T ra ro rc := by
    refine ⟨hm1, hg, ⟨f, hrow, fun r hr => hf r _ (Hvk.out r hr.1)⟩, fun r hr => by omega, fun r hr => ?_⟩
    have h1 : ra r < w.heap.size := World.block_lt_of_cell? w _ (HT.out.cells r hr.1 j hj)
    have h2 := hm1.size
    exact ⟨by show ra r ≠ g; omega, Nat.lt_of_lt_of_le h1 h2, fun j hj => hm1.cell (HT.out.cells r hr.1 j hj) id⟩
  have G := Lib.hid hgr
  clear hgr hm1 hf hrow hown1 hgrow1 hat1 hcM
  have c0 := G.out.mod.cell (HT.out.rows i hi) id
  have hx := World.rowIs_made w1 (.int .i64 0) K 3
  have G1 := (G.out.alloc (.cells (madeCells #[.int .i64 0] K) 3))
  obtain ⟨v1, hv1⟩ := G1.ex (k := i) (by omega)
  have f1 := G1.frz i
  have Gx := Lib.hid (G1.put (i := i) (x := w1.heap.size) (F := fun _ => 0) (by omega) (fun h => h.2 rfl) hx ⟨G.out.mod.size, fun e => by have := G.out.glt; omega⟩ (fun r hr e => by have := (G.out.rows r hr).2.1; omega))
  have hmk := Hmk.out
  clear G1 hx
  go_upto_region 3 with fail
  generalize ((w1.alloc (.cells (madeCells #[.int .i64 0] K) 3)).setCell ⟨g, i, none⟩ (.slice (some ⟨w1.heap.size, 0, none⟩) K K)) = w2 at Gx ⊢
  generalize w1.heap.size = x at Gx ⊢
  clear hv1 f1 c0 hmk
  have hd := Gx.out.hd
  go_wp2_with fail
  go_loopw [26] (fun i' wr => ∃ q : Nat, q ≤ K ∧ i' = .int .i64 q ∧ GX w wr 31 g M K (fun r => r < n ∧ r ≠ i) T ra ro rc i x (midF (fun _ => far) (fun _ => 0) q)) (fun i _ => K - (intOf i).toNat)
  case atStart => exact ⟨0, by omega, rfl, Gx.out.congr (fun j _ => by rw [midF_ge (Nat.not_lt_zero j)])⟩
  case round =>
    clear Gx hd
    clear w2
    obtain ⟨q, hq, rfl, hgx⟩ := hrel
    have Gx := Lib.hid hgx
    clear hgx
    obtain ⟨wp, rfl⟩ : ∃ wp : World, wp = wr := ⟨_, rfl⟩
    have hd := Gx.out.hd
    by_cases hqK : q < K
    · have hc := Gx.out.at hqK
      rw [midF_ge (by omega)] at hc
      have hf := Gx.out.row.frozen q
      have q1 : (q : Int) < (K : Int) := by omega
      go_wp2_with fail
      exact ⟨⟨q + 1, by omega, by go_num, Gx.out.set (fun _ => by rw [midF_at]; rfl) (fun p _ hp => midF_step hp)⟩, by simp [intOf]; omega⟩
    · obtain rfl : q = K := by omega
      clear hqK hq
      have c0 := Gx.out.gr.mod.cell (HT.out.rows i hi) id
      have c1 := Gx.out.gr.mod.cell (HT.out.cells i hi j hj) id
      have hc := Gx.out.at hj
      have hf := Gx.out.row.frozen j
      have Hnew := Lib.hid Gx.out.new
      go_upto_region 8 with fail
      go_region
      have Gz := Lib.hid ((Gx.out.set (k := j) (y := T i j) (F' := oneRow T i j i) (fun _ => by unfold oneRow; rw [if_neg (fun h => h.2 rfl)]) (fun p hp hpj => by rw [midF_lt hp]; unfold oneRow; rw [if_pos ⟨rfl, hpj⟩])).drew.done (P' := fun r => r < n) (T' := oneRow T i j)
        (fun r hr => by by_cases e : r = i; exact .inr e; exact .inl ⟨hr, e⟩) (fun r hri _ p _ => by unfold oneRow; rw [if_neg (fun h => hri h.1)]) (fun _ _ => rfl))
      generalize (wp.setCell ⟨x, j, none⟩ (.int .i64 (T i j))).drew = w4 at Gz ⊢
      clear Gx hd hc hf c0 c1
      go_wp2_with fail
      go_ret
      have h9 := Gz.out.tab (fun r hr => hr)
      exact ⟨g, _, _, _, _, rfl, Gz.out.mod, ⟨fun _ => .inr hg, h9.rows, fun r hr => by
        by_cases e : r = i
        · show D (if r = i then x else ra r) ∨ _ ≤ (if r = i then x else ra r)
          rw [if_pos e]; exact .inr Hnew.out.1
        · show D (if r = i then x else ra r) ∨ _ ≤ (if r = i then x else ra r)
          rw [if_neg e]; exact .inl (HT.out.own r hr), h9.cells⟩⟩

end Go.Proofs.Ytnpdkpbecmpdbaa
