/-
  The law CameraSure walked.
-/
import Derived.Test.YtgoccfjmghhaoaaDf
import Derived.OpenShut
set_option linter.unusedVariables false
set_option linter.unusedSimpArgs false
namespace Go.Proofs.Ytgoccfjmghhaoaa
open Go.RowKit

theorem u8_wf {x : Int} (h : (Lit.int .u8 x).wf = true) : 0 ≤ x ∧ x ≤ 255 := by
  simpa [Lit.wf, IntKind.min, IntKind.max, IntKind.signed, IntKind.bits] using h
theorem u32_wf {x : Int} (h : (Lit.int .u32 x).wf = true) : 0 ≤ x ∧ x ≤ 4294967295 := by
  simpa [Lit.wf, IntKind.min, IntKind.max, IntKind.signed, IntKind.bits] using h

theorem set_made (w : World) (cs : Array Value) (t : TypeId) (i : Nat) (v : Value) : (w.alloc (.cells cs t)).setCell ⟨w.heap.size, i, none⟩ v = w.alloc (.cells (cs.setIfInBounds i v) t) := by
  go_simp

theorem KInts.cell {q : IntKind} {w : World} {b off : Nat} {xs : List Int} (h : KInts q w (some ⟨b, off, none⟩) xs) {k : Nat} (hk : k < xs.length) : w.cell? ⟨b, off + k, none⟩ = some (.int q (ix xs k)) := by
  obtain ⟨b', o', e, hc⟩ := h.2 (by intro e; rw [e] at hk; simp at hk)
  simp only [Option.some.injEq, Addr.mk.injEq, and_true] at e
  obtain ⟨rfl, rfl⟩ := e
  exact hc k hk

theorem Src.after (w : World) (p : Addr) (u x : Value) (t : TypeId) : Src ((w.setCell p u).alloc (.cells #[x] t)) (some ⟨w.heap.size, 0, none⟩) [x] := by
  have h := Src.one (w.setCell p u) x t
  have e : (w.setCell p u).heap.size = w.heap.size := by simp [World.setCell]
  rw [e] at h
  exact h

theorem infoRow : (Try.prog.info? 41).map (fun i => (i.zero, i.size, i.bytes)) = some (some (.slice Option.none 0 0), 1, 24) := by kernel_rfl
theorem elemRows : Elem1 Try.prog 22 41 24 := Elem1.mk Try.underlying22 infoRow rfl

set_option maxRecDepth 100000 in
set_option maxHeartbeats 6400000 in
theorem camSure_fin (a : Option Addr) (c : Nat) (cl : List Int) {w : World} (hx : KInts .u8 w a cl) (hw : ∀ x ∈ cl, (Lit.int .u8 x).wf = true) (y : Int) (hy : (Lit.int .u8 y).wf = true) (a2 : Option Addr) (c2 : Nat) (ms : List Int) (hp : KInts .u32 w a2 ms) (hw2 : ∀ x ∈ ms, (Lit.int .u32 x).wf = true) (_ : World) :
    Calls Try.prog 8 #[.slice a cl.length c, .int .u8 y, .slice a2 ms.length c2] w fun e w' => e = .returned (.bool true) ∧ Mod NoBlock w w' := by
  have hl1 := hx.1
  have hl2 := hp.1
  unfold maxLen at hl1 hl2
  have M := Lib.hid (Mod.refl NoBlock w)
  have AW := Lib.hid awakeC_any
  by_cases hg : (cl.length : Int) < 1 ∨ (¬ (cl.length : Int) < 1 ∧ 16 < (cl.length : Int)) ∨ (¬ (cl.length : Int) < 1 ∧ ¬ 16 < (cl.length : Int) ∧ ¬ (ms.length : Int) = (cl.length : Int))
  · clear hx hp hw hw2 hy
    rcases hg with q | ⟨q, q2⟩ | ⟨q, q2, q3⟩
    all_goals
      go_enter Try.func8, Try.ntmps8
      go_wp2_with fail
      refine (AW.out _).mono ?_; rintro e w9 ⟨rfl, m⟩; have M := Lib.hid (M.out.trans m); clear m
      go_wp2
      go_ret
      exact ⟨rfl, M.out⟩
  have n1 : 1 ≤ cl.length := by omega
  have n16 : cl.length ≤ 16 := by omega
  have hms : ms.length = cl.length := by omega
  clear hg
  obtain ⟨y0, y1⟩ := u8_wf hy
  obtain ⟨O, hO⟩ : ∃ O : Nat, 1 + y % 4 = (O : Int) := ⟨(1 + y % 4).toNat, by rw [Int.toNat_of_nonneg (by omega)]⟩
  have o1 : 1 ≤ O := by omega
  have o4 : O ≤ 4 := by omega
  have ey : y.tmod 4 = (O : Int) - 1 := by rw [Int.tmod_eq_emod_of_nonneg y0]; omega
  have hOI : IntKind.i64.wrap (1 + ((O : Int) - 1)) = (O : Int) := by rw [show (1 : Int) + ((O : Int) - 1) = O by omega]; exact IntWalk.i64_in _ (by omega)
  have hmk := run_make_row' (P := Try.prog) 41 3 (.int .i64 0) 8 Try.underlying41 infoIntsC rfl .i64 .i64 O (by omega) (by omega)
  obtain ⟨cls, hcls⟩ : ∃ cls : Nat → Nat, ∀ j, j < cl.length → (ix cl j) % (O : Int) = (cls j : Int) ∧ cls j < O := ⟨fun j => (ix cl j % (O : Int)).toNat, fun j hj => by
    have h1 := (u8_wf (hw (ix cl j) (by rw [ix_eq hj]; exact List.getElem_mem hj))).1
    have h2 := Int.emod_nonneg (ix cl j) (by omega : (O : Int) ≠ 0)
    have h3 := Int.emod_lt_of_pos (ix cl j) (by omega : (0 : Int) < O)
    exact ⟨(Int.toNat_of_nonneg h2).symm, by show (ix cl j % (O : Int)).toNat < O; generalize ix cl j % (O : Int) = z at h2 h3 ⊢; omega⟩⟩
  obtain ⟨mass, hmass⟩ : ∃ mass : Nat → Int, ∀ j, ix ms j % 1073741825 = mass j := ⟨fun j => ix ms j % 1073741825, fun _ => rfl⟩
  have Hcl := Lib.hid (show ∀ j, j < cl.length → 0 ≤ ix cl j ∧ ix cl j ≤ 255 from fun j hj => u8_wf (hw _ (by rw [ix_eq hj]; exact List.getElem_mem hj)))
  have Hms := Lib.hid (show ∀ j, j < cl.length → 0 ≤ ix ms j ∧ ix ms j ≤ 4294967295 from fun j hj => u32_wf (hw2 _ (by rw [ix_eq (by omega)]; exact List.getElem_mem (by omega))))
  have Hcls := Lib.hid hcls
  have Hmass := Lib.hid hmass
  have HX := Lib.hid hx
  have HP := Lib.hid hp
  have Hml := Lib.hid hms
  have N1 : (1 : Int) ≤ cl.length := by omega
  have N16 : (cl.length : Int) ≤ 16 := by omega
  have O1 : (1 : Int) ≤ O := by omega
  have O4 : (O : Int) ≤ 4 := by omega
  rw [hms]
  clear hx hp hw hw2 hy hcls hmass hms hl2 hO
  go_enter Try.func8, Try.ntmps8
  go_wp2
  have hss : SureS w (w.alloc (.cells #[.slice none 0 0] 24)) w.heap.size none 0 0 O (fun _ => 0) cls none 0 0 mass :=
    ⟨(Mod.refl _ _).alloc _, Nat.le_refl _, rowIs_new w _ _, Own.nil _ _ _, fun j hj => absurd hj (by omega), Own.nil _ _ _, fun k h => by simp [blockOf] at h⟩
  have H := Lib.hid hss
  clear hss M
  generalize w.alloc (.cells #[.slice none 0 0] 24) = w0 at H ⊢
  obtain ⟨C, hC⟩ : ∃ C, w.heap.size = C := ⟨_, rfl⟩
  rw [hC] at H ⊢
  have HC := Lib.hid hC
  clear hC
  go_loopw [9, 10, 11] (fun o i v wr => ∃ (k : Nat) (ao : Option Addr) (co : Nat) (g : Nat → Nat) (ai : Option Addr) (ci : Nat), k ≤ cl.length ∧ i = .int .i64 k ∧ o = .slice ai k ci ∧ SureS w wr C ao co k O g cls ai ci k mass) (fun _ i _ _ => cl.length - (intOf i).toNat)
  case atStart => exact ⟨0, none, 0, _, none, 0, by omega, rfl, rfl, H.out⟩
  case round =>
    clear H
    obtain ⟨k, ao, co, g, ai, ci, hk, rfl, rfl, hss⟩ := hrel
    have H := Lib.hid hss
    clear hss
    obtain ⟨wo, rfl⟩ : ∃ wo : World, wo = wr := ⟨_, rfl⟩
    by_cases hlt : k < cl.length
    · obtain ⟨b, off, ha, hc⟩ := (HX.out.frame H.out.mod).2 (by intro e; subst e; simp at hlt)
      obtain rfl := ha
      have h1 := hc k hlt
      obtain ⟨b2, off2, ha2, hc2⟩ := (HP.out.frame H.out.mod).2 (by intro e; have := Hml.out; rw [e] at this; simp at this; omega)
      obtain rfl := ha2
      have h2 := hc2 k (by rw [Hml.out]; exact hlt)
      have hb1 : b < wo.heap.size := World.block_lt_of_cell? _ _ h1
      have hb2 : b2 < wo.heap.size := World.block_lt_of_cell? _ _ h2
      have hCl := H.out.str.lt
      have hc0 : wo.cell? ⟨C, 0, none⟩ = some (.slice ao k co) := H.out.str.cell (by omega)
      obtain ⟨x0, x1⟩ := Hcl.out k hlt
      obtain ⟨e1, e2⟩ := Hcls.out k hlt
      obtain ⟨z0, z1⟩ := Hms.out k hlt
      have e3 := Hmass.out k
      have e1 : (ix cl k).tmod (O : Int) = (cls k : Int) := by rw [Int.tmod_eq_emod_of_nonneg x0]; exact e1
      have e3 : (ix ms k).tmod 1073741825 = mass k := by rw [Int.tmod_eq_emod_of_nonneg z0]; exact e3
      clear hc hc2
      obtain ⟨x, hx⟩ : ∃ x, ix cl k = x := ⟨_, rfl⟩
      obtain ⟨z, hz⟩ : ∃ z, ix ms k = z := ⟨_, rfl⟩
      rw [hx] at h1 x0 x1 e1
      rw [hz] at h2 z0 z1 e3
      have Hz := Lib.hid (show Value.int .u32 (ix ms k) = .int .u32 z by rw [hz])
      have kml : k < ms.length := by rw [Hml.out]; exact hlt
      clear hx hz
      have hrow := World.rowIs_made wo (.int .i64 0) O 3
      have s1 := hrow.cell (i := cls k) e2
      have s2 := hrow.frozen (cls k)
      have hset := hrow.set (cls k) (.int .i64 1000)
      have Hrow1 := Lib.hid (hset.congr (g := fun c => .int .i64 (if c = cls k then 1000 else 0)) (fun c _ => by
        show (if c = cls k then _ else _) = _
        by_cases hcc : c = cls k
        · rw [if_pos hcc, if_pos hcc]
        · rw [if_neg hcc, if_neg hcc]))
      have Hmm := Lib.hid (((Mod.refl NoBlock wo).alloc (.cells (madeCells #[.int .i64 0] O) 3)).setCell (p := ⟨wo.heap.size, cls k, none⟩) (.inr (Nat.le_refl _)) (.int .i64 1000))
      rw [set_made] at Hrow1 Hmm
      obtain ⟨CC, hCC⟩ : ∃ CC, (madeCells #[.int .i64 0] O).setIfInBounds (cls k) (.int .i64 1000) = CC := ⟨_, rfl⟩
      rw [hCC] at Hrow1 Hmm
      have s3 : (wo.alloc (.cells CC 3)).cell? ⟨C, 0, none⟩ = some (.slice ao k co) := Hmm.out.cell hc0 id
      have Hsrc := Lib.hid (show Src ((wo.alloc (.cells CC 3)).alloc (.cells #[.slice (some ⟨wo.heap.size, 0, none⟩) O O] 41)) (some ⟨wo.heap.size + 1, 0, none⟩) [.slice (some ⟨wo.heap.size, 0, none⟩) O O] from by
        have := Src.one (wo.alloc (.cells CC 3)) (.slice (some ⟨wo.heap.size, 0, none⟩) O O) 41
        rw [World.size_alloc] at this
        exact this)
      have Lk := Lib.hid (show k = (rowsV k g O).length from (rowsV_length k g O).symm)
      have Lm := Lib.hid (show k = (rowV k mass).length from (rowV_length k mass).symm)
      have c0 : (0 : Int) ≤ (cls k : Int) := by omega
      have cO : (cls k : Int) < (O : Int) := by omega
      have k0 : (0 : Int) ≤ (k : Int) := by omega
      have kn : (k : Int) < (cl.length : Int) := by omega
      clear hrow hset
      go_wp2_with (at_builtin; first
        | (refine wpList_append1 (vs := rowsV k g O) rfl (.tmp 57) (.tmp 59) _ rfl elemRows k 1 (k + 1) 1 [.slice (some ⟨wo.heap.size, 0, none⟩) O O] rfl rfl Lk.out (by simp) (by omega) ((H.out.own.mod Hmm.out (fun _ _ => id)).alloc _) Hsrc.out (by simp [Value.oneCell']) (by simp only [maxLen]; omega) (by omega) (by simp [World.setCell]; omega) ?_
           intro a4 c4 w4 hown4 hgrow4 hat4
           have H4 := Lib.hid (H.out.addRow Hmm.out Hrow1.out hown4 hgrow4 hat4)
           have hb4 := (hgrow4.block C (by simp [World.setCell]; omega) (H.out.own.away (Nat.lt_succ_self C))).trans ((Below.heap_alloc _ _ _ (by simp [World.setCell]; omega)).trans (Hmm.out.block C hCl id))
           have hr4 := H.out.str.of_block hb4
           have st1 : w4.cell? ⟨C, 0, none⟩ = some (.slice ao k co) := hr4.cell (by omega)
           have st2 : w4.frozen? ⟨C, 0, none⟩ = false := hr4.frozen 0
           have h5 := ((HP.out.frame H4.out.mod).cell kml).trans (congrArg some Hz.out)
           have hs5 := hr4.lt
           clear hown4 hgrow4 hat4 hb4 hr4)
        | (refine wpList_append1 (vs := rowV k mass) rfl (.tmp 62) (.tmp 69) _ rfl elemMix k 1 (k + 1) 1 [.int .i64 (mass k)] rfl rfl Lm.out (by simp) (by omega) (H4.out.inn.alloc _) (Src.after _ _ _ _ _) (by simp [Value.oneCell']) (by simp only [maxLen]; omega) (by omega) (by simp [World.setCell]; omega) ?_
           intro a6 c6 w6 hown6 hgrow6 hat6
           have H6 := Lib.hid (H4.out.addMass hown6 hgrow6 hat6)
           clear hown6 hgrow6 hat6))
      exact ⟨⟨k + 1, a4, c4, _, a6, c6, by omega, by go_num, rfl, H6.out⟩, by simp [intOf]; omega⟩
    · have hkn : k = cl.length := by omega
      subst hkn
      have hcam := H.out.cam (by simp only [maxLen]; omega) (by simp only [maxLen]; omega)
      have hxl : ((List.range cl.length).map mass).length = cl.length := by simp
      have hix : ∀ j, j < cl.length → ix ((List.range cl.length).map mass) j = mass j := fun j hj => ix_range _ _ hj
      have hxs : Ints (fun b => b < wo.heap.size) wo ai ((List.range cl.length).map mass) := by
        have h9 := H.out.inn
        rw [← rowV_of hxl hix] at h9
        exact h9.ints (fun b _ hb => hb) (by rw [hxl]; simp only [maxLen]; omega)
      have hmb : ∀ j, j < cl.length → 0 ≤ mass j ∧ mass j ≤ 1073741824 := fun j hj => by
        have h1 := Hmass.out j
        have h2 := (Hms.out j hj).1
        omega
      have hsee : seeE (sureC cl.length O cls).length ((List.range cl.length).map mass) = 0 := by
        have hf : faultL ((List.range cl.length).map mass) = 0 := faultL_ok (by rw [hxl]; omega) (by
          rw [List.any_eq_false]
          intro x hx
          simp only [List.mem_map, List.mem_range] at hx
          obtain ⟨j, hj, rfl⟩ := hx
          have := hmb j hj
          simp [badMass]; omega)
        unfold seeE
        rw [if_neg (by rw [hf]; decide), hxl, sureC_length, if_pos rfl]
      have hce : camE (sureC cl.length O cls) cl.length = 0 := sureC_ok n1 n16 o4 (fun j hj => (Hcls.out j hj).2)
      have Hnew := Lib.hid (camNew_ok ao co (sureC cl.length O cls) cl.length _ wo hcam hce)
      have Hok := Lib.hid (EyeOk.new hce)
      rw [sureC_length] at Hnew
      have Hxs := Lib.hid hxs
      have Hsee := Lib.hid hsee
      have Hxl := Lib.hid hxl
      have Hix := Lib.hid hix
      have Hmb := Lib.hid hmb
      have M := Lib.hid H.out.mod
      have hc0 : wo.cell? ⟨C, 0, none⟩ = some (.slice ao cl.length co) := H.out.str.cell (by omega)
      clear hcam hxl hix hxs hmb hsee hce
      go_wp2_with fail
      refine Hnew.out.mono ?_
      rintro e w2 ⟨p, rfl, m1, he⟩
      have HY := Lib.hid he
      replace Hxs := Lib.hid (Hxs.out.frame m1)
      have hws : wo.heap.size ≤ w2.heap.size := m1.size
      have hww := M.out.size
      replace M := Lib.hid (M.out.trans m1)
      have Hsee2 := Lib.hid (see_ok wo.heap.size w2.heap.size p (sureC cl.length O cls) (zeros (sureC cl.length O cls)) ai ci ((List.range cl.length).map mass) (fun b => b < wo.heap.size) w2 HY.out Hxs.out Hok.out (fun b h => by omega) (Nat.le_refl _) Hsee.out)
      have hO0 : (rx (sureC cl.length O cls) 0).length = O := by rw [rx_sureC n1, sureR_length]
      rw [Hxl.out, hO0] at Hsee2
      have HO0 := Lib.hid hO0
      clear m1 he hO0 hc0 H
      go_wp2_with fail
      refine Hsee2.out.mono ?_
      rintro e w3 ⟨al, dl, rfl, m1, -, hl⟩
      have hw2 := m1.size
      replace M := Lib.hid (M.out.step m1 fun b hb h => by omega)
      replace Hxs := Lib.hid (Hxs.out.mod m1 fun b _ h h2 => by omega)
      obtain ⟨bi, oi, rfl, -, hci⟩ := Hxs.out.2 (by intro e; have := Hxl.out; rw [e] at this; simp at this; omega)
      obtain ⟨bo, oo, rfl, -, hco⟩ := hl.2 (by intro e; have h9 := congrArg List.length e; rw [seeL_length, HO0.out] at h9; simp at h9; omega)
      have Hci := Lib.hid (show ∀ j, j < cl.length → w3.cell? ⟨bi, oi + j, none⟩ = some (.int .i64 (mass j)) from fun j hj => by
        rw [← Hix.out j hj]; exact (hci j (by rw [Hxl.out]; exact hj)).1)
      have Hco := Lib.hid (show ∀ q, q < O → ∃ aq cq, w3.cell? ⟨bo, oo + q, none⟩ = some (.slice aq cl.length cq) ∧ ∃ bq oq, aq = some ⟨bq, oq, none⟩ ∧ ∀ j, j < cl.length → w3.cell? ⟨bq, oq + j, none⟩ = some (.int .i64 (if q = cls j then mass j else 0)) from fun q hq => by
        obtain ⟨aq, cq, h1, h2⟩ := hco q (by rw [seeL_length, HO0.out]; exact hq)
        have hq0 : q < (rx (sureC cl.length O cls) 0).length := by rw [HO0.out]; exact hq
        have hlen : (rx (seeL (sureC cl.length O cls) (zeros (sureC cl.length O cls)) ((List.range cl.length).map mass)) q).length = cl.length := by rw [rx_seeL hq0]; simp [sureC_length]
        rw [hlen] at h1
        refine ⟨aq, cq, h1, ?_⟩
        obtain ⟨bq, oq, e, _, hc⟩ := h2.2 (by intro e; rw [e] at hlen; simp at hlen; omega)
        refine ⟨bq, oq, e, fun j hj => ?_⟩
        rw [(hc j (by rw [hlen]; exact hj)).1, rx_seeL hq0, ix_range _ _ (by rw [sureC_length]; exact hj), rx_zeros (by rw [sureC_length]; exact hj), rx_sureC hj, Hix.out j hj, sure_next (Hcls.out j hj).2 o4 (Hmb.out j hj).1 hq])
      clear m1 hl hci hco Hsee Hsee2 Hnew Hok HY
      go_wp2
      go_loop [16, 17, 18] (fun i u v => ∃ j : Nat, j ≤ cl.length ∧ i = .int .i64 j) (fun i _ _ => cl.length - (intOf i).toNat)
      case atStart => exact ⟨0, by omega, rfl⟩
      case round =>
        obtain ⟨j, hj, rfl⟩ := hrel
        by_cases hltj : j < cl.length
        · go_wp2
          go_loop [17, 18] (fun i v => ∃ q : Nat, q ≤ O ∧ i = .int .i64 q) (fun i _ => O - (intOf i).toNat)
          case atStart => exact ⟨0, by omega, rfl⟩
          case round =>
            obtain ⟨q, hq, rfl⟩ := hrel
            by_cases hltq : q < O
            · have h1 := (HX.out.frame M.out)
              obtain ⟨b, off, ha, hc⟩ := h1.2 (by intro e; subst e; simp at hltj)
              obtain rfl := ha
              have h1 := hc j hltj
              have h2 := Hci.out j hltj
              obtain ⟨aq, cq, h3, bq, oq, rfl, hcq⟩ := Hco.out q hltq
              have h4 := hcq j hltj
              obtain ⟨x0, x1⟩ := Hcl.out j hltj
              obtain ⟨e1, e2⟩ := Hcls.out j hltj
              have e1 : (ix cl j).tmod (O : Int) = (cls j : Int) := by rw [Int.tmod_eq_emod_of_nonneg x0]; exact e1
              have j0 : (0 : Int) ≤ (j : Int) := by omega
              have jn : (j : Int) < (cl.length : Int) := by omega
              have q0 : (0 : Int) ≤ (q : Int) := by omega
              have qO : (q : Int) < (O : Int) := by omega
              generalize ix cl j = x at h1 x0 x1 e1
              clear hc hcq
              by_cases hqc : q = cls j
              · rw [if_pos hqc] at h4
                subst hqc
                generalize mass j = z at h2 h4
                go_wp2
                exact ⟨⟨cls j + 1, by omega, by go_num⟩, by simp [intOf]; omega⟩
              · rw [if_neg hqc] at h4
                have hd : ((q : Int) == (cls j : Int)) = false := by rw [beq_eq_false_iff_ne]; omega
                clear hqc
                go_wp2
                exact ⟨⟨q + 1, by omega, by go_num⟩, by simp [intOf]; omega⟩
            · go_wp2
              exact ⟨⟨j + 1, by omega, by go_num⟩, by simp [intOf]; omega⟩
        · go_wp2_with fail
          refine (AW.out _).mono ?_; rintro e w9 ⟨rfl, m⟩; have M := Lib.hid (M.out.trans m); clear m
          go_wp2
          go_ret
          exact ⟨rfl, M.out⟩

end Go.Proofs.Ytgoccfjmghhaoaa
