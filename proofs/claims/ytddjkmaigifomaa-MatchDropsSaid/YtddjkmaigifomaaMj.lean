/-
  match: Proves, where the code looks at all.
-/
import Derived.Test.YtddjkmaigifomaaMg
import Derived.Deep.RegionWith
import Derived.Deep.DeepCutAuto
import Derived.Deep.CutBlock
set_option linter.unusedVariables false
set_option linter.unusedSimpArgs false
namespace Go.Proofs.Ytddjkmaigifomaa
open Go.RowKit

set_option maxRecDepth 100000 in
set_option maxHeartbeats 6400000 in
theorem proves_ok {D E F G H9 : Nat → Prop} {w : World} {a b aC aU aV : Option Addr} {c d cC cU cV : Nat} {t : Int} {C : List (List Int)} {sk cols U V : List Int} (h : Mixes D w a C) (hs : Ints E w b sk) (hc : Ints F w aC cols) (hU : Ints G w aU U) (hV : Ints H9 w aV V) (hpre : PreP C sk cols t U V) :
    Calls Try.prog 20 #[.slice a C.length c, .slice b sk.length d, .agg #[.slice aC cols.length cC, .int .i64 t, .slice aU U.length cU, .slice aV V.length cV]] w (BoolIs (ProOk C sk cols t U V) w) := by
  have m0 := (Mod.refl NoBlock w).alloc (.cells #[.slice aC cols.length cC, .int .i64 t, .slice aU U.length cU, .slice aV V.length cV] 29)
  have hb0 := rowIs_new w #[.slice aC cols.length cC, .int .i64 t, .slice aU U.length cU, .slice aV V.length cV] 29
  have Hval := Lib.hid (value_any (c := c) (d := d) (c3 := cC) (h.frame m0) (hs.frame m0) (hc.frame m0))
  have M0 := Lib.hid m0
  have B0 := Lib.hid hb0
  have HC := Lib.hid h
  have HS := Lib.hid hs
  have HU := Lib.hid hU
  have HV := Lib.hid hV
  have lC : C.length ≤ maxLen := h.1
  have lU : U.length ≤ maxLen := hU.1
  have lV : V.length ≤ maxLen := hV.1
  simp only [maxLen] at lC lU lV
  have b00 : (w.alloc (.cells #[.slice aC cols.length cC, .int .i64 t, .slice aU U.length cU, .slice aV V.length cV] 29)).cell? ⟨w.heap.size, 0, none⟩ = some (.slice aC cols.length cC) := hb0.cell (i := 0) (by show 0 < 4; omega)
  have Hpre := Lib.hid hpre
  clear h hs hc hU hV m0 hb0 hpre
  go_enter Try.func20, Try.ntmps20
  go_upto_region 1 with fail
  generalize w.alloc (.cells #[.slice aC cols.length cC, .int .i64 t, .slice aU U.length cU, .slice aV V.length cV] 29) = w1 at Hval M0 B0 b00 ⊢
  go_upto_region 2 with (go_at_call 18; refine Hval.out.mono ?_; rintro e w2 ⟨rfl, hm2⟩)
  have M2 := Lib.hid (M0.out.trans hm2)
  have B2 := Lib.hid (B0.out.of_block (hm2.block _ B0.out.lt id))
  clear b00 hm2 B0 M0 Hval
  have b1 : w2.cell? ⟨w.heap.size, 1, none⟩ = some (.int .i64 t) := B2.out.cell (i := 1) (by show 1 < 4; omega)
  have b2 : w2.cell? ⟨w.heap.size, 2, none⟩ = some (.slice aU U.length cU) := B2.out.cell (i := 2) (by show 2 < 4; omega)
  have b3 : w2.cell? ⟨w.heap.size, 3, none⟩ = some (.slice aV V.length cV) := B2.out.cell (i := 3) (by show 3 < 4; omega)
  obtain ⟨g1, g2, e2, e3, e4, e5⟩ := Hpre.out
  obtain ⟨p1, p2, p3, p4⟩ := valM_prob g1
  have HP := Lib.hid (probOk p1)
  rw [g1, g2]
  have Hg1 := Lib.hid g1
  have Hg2 := Lib.hid g2
  have HlU := Lib.hid e2
  have HlV := Lib.hid e3
  have HiU := Lib.hid e4
  have HiV := Lib.hid e5
  obtain ⟨n, hn⟩ : ∃ n, C.length = n := ⟨_, rfl⟩
  obtain ⟨k, hk⟩ : ∃ k, (rx C 0).length = k := ⟨_, rfl⟩
  rw [hn] at HP HlU lC ⊢
  rw [hk] at HP HlV
  rw [HlU.out] at b2 lU ⊢
  rw [HlV.out] at b3 lV ⊢
  have Hn9 := Lib.hid hn
  have Hk9 := Lib.hid hk
  have HUw := Lib.hid (HU.out.frame M2.out.drew)
  have HVw := Lib.hid (HV.out.frame M2.out.drew)
  have Hcol := Lib.hid (columns_any (c := c) (HC.out.frame M2.out.drew) HP.out.rect HP.out.k0)
  have hin := inside_yes (c := cU) HUw.out e4
  rw [HlU.out] at hin
  have Hin := Lib.hid hin
  have hin2 := inside_yes (c := cV) HVw.out e5
  rw [HlV.out] at hin2
  have Hin2 := Lib.hid hin2
  have n24 := HP.out.n24
  have k24 := HP.out.k24
  clear hin hin2 hn hk g1 g2 e2 e3 e4 e5 p1 p2 p3 p4
  go_cut [59] (fun s59 wx => s59 = .bool false ∧ Hid (wx = w2.drew))
  case first =>
    go_region_with (first
      | (go_at_call 22; refine Hcol.out.mono ?_; rintro e w5 ⟨rfl, rfl⟩)
      | (go_at_call_of 31 aU; refine Hin.out.mono ?_; rintro e w5 ⟨rfl, rfl⟩)
      | (go_at_call_of 31 aV; refine Hin2.out.mono ?_; rintro e w5 ⟨rfl, rfl⟩))
    all_goals (go_wp2_with fail; go_meet; exact ⟨rfl, Lib.hid rfl⟩)
  case rest =>
   obtain ⟨rfl, HWc⟩ := hcut
   rw [HWc.out]
   have HMk : Hid ((∀ j, j < k → ix V j ≤ 0) → (∀ i, i < n → ix U i ≤ ix sk i) → (∀ i, i < n → ∀ j, j < k → ix (rx C i) j ≠ -1 → ix U i + ix V j ≤ ix (rx C i) j) → sumR k (ix V) + sumR n (ix U) = t → ProOk C sk cols t U V) := Lib.hid fun q1 q2 q3 q4 =>
     ⟨Hg1.out, Hg2.out, HlU.out.trans Hn9.out.symm, HlV.out.trans Hk9.out.symm, HiU.out, HiV.out, by rw [Hk9.out]; exact q1, by rw [Hn9.out]; exact q2, by rw [Hk9.out, Hn9.out]; exact q3, by rw [Hk9.out, Hn9.out]; exact q4⟩
   have Hv0 : Hid (ProOk C sk cols t U V → ∀ j, j < k → ix V j ≤ 0) := Lib.hid fun h => by have := h.v0; rwa [Hk9.out] at this
   have Hus : Hid (ProOk C sk cols t U V → ∀ i, i < n → ix U i ≤ ix sk i) := Lib.hid fun h => by have := h.uS; rwa [Hn9.out] at this
   have Huv : Hid (ProOk C sk cols t U V → ∀ i, i < n → ∀ j, j < k → ix (rx C i) j ≠ -1 → ix U i + ix V j ≤ ix (rx C i) j) := Lib.hid fun h => by have := h.uv; rwa [Hk9.out, Hn9.out] at this
   have Hsm : Hid (ProOk C sk cols t U V → sumR k (ix V) + sumR n (ix U) = t) := Lib.hid fun h => by have := h.sum; rwa [Hk9.out, Hn9.out] at this
   have M3 := Lib.hid M2.out.drew
   have c1 : w2.drew.cell? ⟨w.heap.size, 1, none⟩ = some (.int .i64 t) := b1
   have c2 : w2.drew.cell? ⟨w.heap.size, 2, none⟩ = some (.slice aU n cU) := b2
   have c3 : w2.drew.cell? ⟨w.heap.size, 3, none⟩ = some (.slice aV k cV) := b3
   clear b1 b2 b3 Hin Hin2 Hcol M2 B2
   generalize w2.drew = w3 at M3 HUw HVw c1 c2 c3 ⊢
   go_wp2_with fail
   go_loopw [9, 63] (fun s i wr => ∃ j : Nat, j ≤ k ∧ i = .int .i64 j ∧ s = .int .i64 (sumR j (ix V)) ∧ (∀ j', j' < j → ix V j' ≤ 0) ∧ Hid (wr = w3)) (fun _ i _ => k - (intOf i).toNat)
   case atStart => exact ⟨0, by omega, rfl, rfl, fun j' hj => absurd hj (Nat.not_lt_zero j'), Lib.hid rfl⟩
   case round =>
     obtain ⟨j, hj, rfl, rfl, hv, ⟨rfl⟩⟩ := hrel
     have Hv := Lib.hid hv
     clear hv
     obtain ⟨s0, s1⟩ := HiV.out.sum j (by rw [HlV.out]; exact hj)
     by_cases hlt : j < k
     · obtain ⟨_, b3, o3, ha3, hc3⟩ := HVw.out.open
       obtain rfl := ha3 (by intro e; have h9 := HlV.out; rw [e] at h9; simp at h9; omega)
       have d3 := hc3 j (by rw [HlV.out]; exact hlt)
       have j1 : (j : Int) < (k : Int) := by omega
       obtain ⟨x0, x1⟩ := HiV.out j (by rw [HlV.out]; exact hlt)
       have Hs : Hid (sumR (j + 1) (ix V) = sumR j (ix V) + ix V j) := Lib.hid rfl
       clear ha3 hc3
       obtain ⟨x, hx⟩ : ∃ x, ix V j = x := ⟨_, rfl⟩
       rw [hx] at d3 x0 x1 Hs
       have Hx := Lib.hid hx
       clear hx
       generalize sumR j (ix V) = y at s0 s1 Hs ⊢
       by_cases hx0 : 0 < x
       · have Hn : Hid (¬ ProOk C sk cols t U V) := Lib.hid fun hp => by have := Hv0.out hp j hlt; rw [Hx.out] at this; omega
         go_wp2_with fail
         go_ret
         exact BoolIs.no Hn.out M3.out
       · have Hx0 := Lib.hid hx0
         have x2 : x ≤ 0 := by omega
         clear hx0
         go_wp2_with fail
         exact ⟨⟨j + 1, by omega, by go_num, by rw [Hs.out], fun j' hj' => by
           by_cases e : j' = j
           · rw [e, Hx.out]; have := Hx0.out; omega
           · exact Hv.out j' (by omega), Lib.hid trivial⟩, by simp [intOf]; omega⟩
     · obtain rfl : k = j := by omega
       clear hlt hj
       obtain ⟨SV, hSV⟩ : ∃ SV, sumR k (ix V) = SV := ⟨_, rfl⟩
       rw [hSV] at s0 s1 HMk Hsm ⊢
       clear hSV
       go_wp2_with fail
       go_loopw [9, 76] (fun s i wr => ∃ q : Nat, q ≤ n ∧ i = .int .i64 q ∧ s = .int .i64 (SV + sumR q (ix U)) ∧ (∀ i, i < q → ix U i ≤ ix sk i) ∧ (∀ i, i < q → ∀ j, j < k → ix (rx C i) j ≠ -1 → ix U i + ix V j ≤ ix (rx C i) j) ∧ Hid (wr = w3)) (fun _ i _ => n - (intOf i).toNat)
       case atStart => exact ⟨0, by omega, rfl, by simp [sumR], fun j' hj => absurd hj (Nat.not_lt_zero j'), fun j' hj => absurd hj (Nat.not_lt_zero j'), Lib.hid rfl⟩
       case round =>
         obtain ⟨q, hq, rfl, rfl, hus, huv, ⟨rfl⟩⟩ := hrel
         have HU1 := Lib.hid hus
         have HV1 := Lib.hid huv
         clear hus huv
         obtain ⟨r0, r1⟩ := HiU.out.sum q (by rw [HlU.out]; exact hq)
         by_cases hlt : q < n
         · obtain ⟨_, b3, o3, ha3, hc3⟩ := HUw.out.open
           obtain rfl := ha3 (by intro e; have h9 := HlU.out; rw [e] at h9; simp at h9; omega)
           have d3 := hc3 q (by rw [HlU.out]; exact hlt)
           obtain ⟨_, b4, o4, ha4, hc4⟩ := (HS.out.frame M3.out).open
           obtain rfl := ha4 (by intro e; have h9 := HP.out.len; rw [e] at h9; simp at h9; omega)
           have d4 := hc4 q (by rw [HP.out.len]; exact hlt)
           obtain ⟨b5, o5, a5, c5, rfl, _, d5, hI5⟩ := (HC.out.frame M3.out).row (k := q) (by rw [Hn9.out]; exact hlt)
           rw [HP.out.rect.2 q hlt] at d5
           have HI5 := Lib.hid hI5
           have q1 : (q : Int) < (n : Int) := by omega
           have q2 : (q : Int) < (sk.length : Int) := by rw [HP.out.len]; omega
           obtain ⟨x0, x1⟩ := HiU.out q (by rw [HlU.out]; exact hlt)
           have Hs : Hid (sumR (q + 1) (ix U) = sumR q (ix U) + ix U q) := Lib.hid rfl
           clear ha3 hc3 ha4 hc4 hI5
           obtain ⟨x, hx⟩ : ∃ x, ix U q = x := ⟨_, rfl⟩
           rw [hx] at d3 x0 x1 Hs
           have Hx := Lib.hid hx
           clear hx
           obtain ⟨y, hy⟩ : ∃ y, ix sk q = y := ⟨_, rfl⟩
           rw [hy] at d4
           have Hy := Lib.hid hy
           clear hy
           generalize sumR q (ix U) = z at r0 r1 Hs ⊢
           by_cases hxy : y < x
           · have Hn : Hid (¬ ProOk C sk cols t U V) := Lib.hid fun hp => by have := Hus.out hp q hlt; rw [Hx.out, Hy.out] at this; omega
             go_wp2_with fail
             go_ret
             exact BoolIs.no Hn.out M3.out
           have Hxy := Lib.hid hxy
           have hxy2 : x ≤ y := by omega
           clear hxy
           go_wp2_with fail
           go_loopw [92] (fun i wr => ∃ j : Nat, j ≤ k ∧ i = .int .i64 j ∧ (∀ j', j' < j → ix (rx C q) j' ≠ -1 → x + ix V j' ≤ ix (rx C q) j') ∧ Hid (wr = w3)) (fun i _ => k - (intOf i).toNat)
           case atStart => exact ⟨0, by omega, rfl, fun j' hj => absurd hj (Nat.not_lt_zero j'), Lib.hid rfl⟩
           case round =>
             obtain ⟨j, hj, rfl, hok, ⟨rfl⟩⟩ := hrel
             have HO := Lib.hid hok
             clear hok
             by_cases hlt2 : j < k
             · obtain ⟨_, b6, o6, ha6, hc6⟩ := HI5.out.open
               obtain rfl := ha6 (by intro e; have h9 := HP.out.rect.2 q hlt; rw [e] at h9; simp at h9; omega)
               have d6 := hc6 j (by rw [HP.out.rect.2 q hlt]; exact hlt2)
               obtain ⟨_, b7, o7, ha7, hc7⟩ := HVw.out.open
               obtain rfl := ha7 (by intro e; have h9 := HlV.out; rw [e] at h9; simp at h9; omega)
               have d7 := hc7 j (by rw [HlV.out]; exact hlt2)
               obtain ⟨v0, v1⟩ := HiV.out j (by rw [HlV.out]; exact hlt2)
               have j1 : (j : Int) < (k : Int) := by omega
               clear ha6 hc6 ha7 hc7
               obtain ⟨cc, hcc⟩ : ∃ cc, ix (rx C q) j = cc := ⟨_, rfl⟩
               rw [hcc] at d6
               have Hcc := Lib.hid hcc
               obtain ⟨vj, hvj⟩ : ∃ vj, ix V j = vj := ⟨_, rfl⟩
               rw [hvj] at d7 v0 v1
               have Hvj := Lib.hid hvj
               clear hcc hvj
               by_cases hc1 : cc = -1
               · have Hok : Hid (ix (rx C q) j ≠ -1 → x + ix V j ≤ ix (rx C q) j) := Lib.hid fun h => absurd (Hcc.out.trans hc1) h
                 subst hc1
                 go_wp2_with fail
                 exact ⟨⟨j + 1, by omega, by go_num, fun j' hj' => by
                   by_cases e : j' = j
                   · rw [e]; exact Hok.out
                   · exact HO.out j' (by omega), Lib.hid trivial⟩, by simp [intOf]; omega⟩
               have hc2 : (cc != -1) = true := bne_iff_ne.2 hc1
               by_cases hs : cc < x + vj
               · have Hn : Hid (¬ ProOk C sk cols t U V) := Lib.hid fun hp => by have := Huv.out hp q hlt j hlt2 (by rw [Hcc.out]; exact hc1); rw [Hx.out, Hvj.out, Hcc.out] at this; omega
                 clear hc1
                 go_wp2_with fail
                 go_ret
                 exact BoolIs.no Hn.out M3.out
               · have Hok : Hid (ix (rx C q) j ≠ -1 → x + ix V j ≤ ix (rx C q) j) := Lib.hid fun _ => by rw [Hvj.out, Hcc.out]; omega
                 have hs2 : x + vj ≤ cc := by omega
                 clear hs hc1
                 go_wp2_with fail
                 exact ⟨⟨j + 1, by omega, by go_num, fun j' hj' => by
                   by_cases e : j' = j
                   · rw [e]; exact Hok.out
                   · exact HO.out j' (by omega), Lib.hid trivial⟩, by simp [intOf]; omega⟩
             · obtain rfl : k = j := by omega
               have hez : IntKind.i64.wrap (SV + z + x) = SV + z + x := IntWalk.i64_in _ (by omega)
               go_wp2_with fail
               exact ⟨⟨q + 1, by omega, by go_num, by rw [Hs.out, Int.add_assoc], fun i hi => by
                 by_cases e : i = q
                 · rw [e, Hx.out, Hy.out]; exact hxy2
                 · exact HU1.out i (by omega), fun i hi => by
                 by_cases e : i = q
                 · rw [e, Hx.out]; exact HO.out
                 · exact HV1.out i (by omega), Lib.hid trivial⟩, by simp [intOf]; omega⟩
         · obtain rfl : n = q := by omega
           clear hlt hq
           by_cases hs : SV + sumR n (ix U) = t
           · have Hy := Lib.hid (HMk.out Hv.out HU1.out HV1.out hs)
             rw [hs]
             clear hs
             go_wp2_with fail
             go_ret
             have h9 := BoolIs.yes Hy.out M3.out
             simpa using h9
           · have Hn : Hid (¬ ProOk C sk cols t U V) := Lib.hid fun hp => hs (Hsm.out hp)
             have hsb : (SV + sumR n (ix U) == t) = false := beq_eq_false_iff_ne.2 hs
             clear hs
             go_wp2_with fail
             go_ret
             exact BoolIs.no Hn.out M3.out

end Go.Proofs.Ytddjkmaigifomaa
