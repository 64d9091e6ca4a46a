/-
  bale.Press walked.
-/
import Derived.Test.YtnpdkpbecmpdbaaPf
set_option linter.unusedVariables false
set_option linter.unusedSimpArgs false
namespace Go.Proofs.Ytnpdkpbecmpdbaa
open Go.RowKit

set_option maxHeartbeats 400000 in
theorem moment5 (w : World) : Calls Try.prog 33 #[.int .i64 5] w fun e w' => e = .returned (.bool true) ∧ w = w' := by
  go_enter Try.func33, Try.ntmps33
  go_wp2
  go_ret
  exact ⟨rfl, rfl⟩

set_option maxRecDepth 100000 in
set_option maxHeartbeats 6400000 in
theorem press_any {a : Option Addr} {c : Nat} {xs : List Int} {D : Nat → Prop} {w : World} {size kind : Int} (hx : Ints D w a xs) (hs : 1 ≤ size) :
    Calls Try.prog 16 #[.slice a xs.length c, .int .i64 size, .int .i64 kind, .int .i64 1, .int .i64 5] w (PressRes w) := by
  have HX := Lib.hid hx
  have Ht := Lib.hid (matTotal_any a c xs D w hx)
  clear hx
  by_cases hf : faultL xs = 0
  case neg =>
    rw [totL_bad hf] at Ht
    have hb : (faultL xs != 0) = true := bne_iff_ne.2 hf
    have Hf := Lib.hid hf
    clear hf
    generalize faultL xs = er at Ht hb Hf
    go_enter Try.func16, Try.ntmps16
    go_wp2_with (go_at_call 27; refine Ht.out.mono ?_; rintro e w1 ⟨rfl, m⟩)
    have M := Lib.hid m
    clear m
    go_wp2_with fail
    go_ret3
    exact PressRes.bad M.out Hf.out
  rw [totL_ok hf] at Ht
  obtain ⟨hn, hg⟩ := ok_of_fault hf
  obtain ⟨b0, b1⟩ := sum_bound hf
  have Hg := Lib.hid hg
  clear hf hg
  obtain ⟨tn, htn⟩ : ∃ tn : Nat, xs.sum = (tn : Int) := ⟨xs.sum.toNat, by omega⟩
  rw [htn] at Ht b0 b1
  clear htn
  have s1 : ¬ (size < 1) := by omega
  by_cases hs2 : size ≤ 1073741824
  case neg =>
    have s2 : 1073741824 < size := by omega
    go_enter Try.func16, Try.ntmps16
    go_upto_region 4 with (go_at_call 27; refine Ht.out.mono ?_; rintro e w1 ⟨rfl, m⟩)
    have M := Lib.hid m
    clear m
    go_wp2_with fail
    go_ret3
    exact PressRes.bad M.out (by decide)
  by_cases hk0 : kind < 0
  · go_enter Try.func16, Try.ntmps16
    go_upto_region 4 with (go_at_call 27; refine Ht.out.mono ?_; rintro e w1 ⟨rfl, m⟩)
    have M := Lib.hid m
    clear m
    go_wp2_with fail
    go_ret3
    exact PressRes.bad M.out (by decide)
  by_cases hk1 : (xs.length : Int) ≤ kind
  · go_enter Try.func16, Try.ntmps16
    go_upto_region 4 with (go_at_call 27; refine Ht.out.mono ?_; rintro e w1 ⟨rfl, m⟩)
    have M := Lib.hid m
    clear m
    go_wp2_with fail
    go_ret3
    exact PressRes.bad M.out (by decide)
  obtain ⟨sn, rfl⟩ : ∃ sn : Nat, size = (sn : Int) := ⟨size.toNat, by omega⟩
  have sn0 : (0 : Int) < (sn : Int) := by omega
  have Hm5 := Lib.hid moment5
  go_enter Try.func16, Try.ntmps16
  go_upto_region 4 with (go_at_call 27; refine Ht.out.mono ?_; rintro e w1 ⟨rfl, m⟩)
  have M := Lib.hid m
  clear m
  go_upto_region 7 with (go_at_call 33; refine (Hm5.out _).mono ?_; rintro e w9 ⟨rfl, rfl⟩)
  obtain ⟨n, hnn⟩ : ∃ n, tn / sn = n := ⟨_, rfl⟩
  have hle : n ≤ tn := by rw [← hnn]; exact Nat.div_le_self _ _
  have hdiv : (tn : Int) / (sn : Int) = (n : Int) := by rw [← hnn]; rfl
  rw [show wrap64 ((tn : Int) / (sn : Int)) = (n : Int) by rw [hdiv]; exact IntWalk.wrap64_in (n : Int) (by omega)]
  clear hdiv hnn
  by_cases hn64 : 64 < (n : Int)
  · go_wp2_with fail
    go_ret3
    exact PressRes.bad M.out (by decide)
  have hn1 : ¬ (1000000 < (1 : Int) + (n : Int) - 1) := by omega
  have HX1 := Lib.hid (HX.out.frame M.out)
  have hmk := run_make_row' (P := Try.prog) 36 3 (.int .i64 0) 8 Try.underlying36 infoInt rfl .i64 .i64 xs.length (by omega) (by omega)
  have hr := World.rowIs_made w1 (.int .i64 0) xs.length 3
  have hm2 := M.out.alloc (.cells (madeCells #[.int .i64 0] xs.length) 3)
  have hx2 := HX1.out.alloc (.cells (madeCells #[.int .i64 0] xs.length) 3)
  go_upto_region 12 with fail
  generalize w1.alloc (.cells (madeCells #[.int .i64 0] xs.length) 3) = w2 at hr hm2 hx2 ⊢
  have hge := M.out.size
  obtain ⟨g, hgg⟩ : ∃ g, w1.heap.size = g := ⟨_, rfl⟩
  rw [hgg] at hr hge ⊢
  have Hr := Lib.hid hr
  have Hm2 := Lib.hid hm2
  have Hx2 := Lib.hid hx2
  clear hr hm2 hx2 hmk hgg
  go_upto_region 14 with ((with_reducible show wpList _ _ _ _ _ _); refine wpList_copy_ints (o := ⟨some 75, _, _, _, _, _⟩) rfl (.tmp 73) (.tmp 74) 36 36 rfl 3 Try.underlying36 (by kernel_rfl) g a c xs.length (by rfl) (by rfl) rfl Hx2.out Hr.out w Hm2.out hge ?_; intro w3 hr3 hm3)
  have HP0 := Lib.hid (PrS.start hm3 hr3 hge)
  clear Hr Hm2 Hx2 hr3 hm3 HX1
  have Hlen := Lib.hid fun R => rowI_length xs.length R
  go_wp2_with fail
  go_loopw [17, 77] (fun ov iv wr => ∃ (i : Nat) (R : Nat → Int) (aO : Option Addr) (cO : Nat) (vs : List Value) (bs : List Bal), i ≤ n ∧ iv = .int .i64 (i : Int) ∧ bs.length = i ∧ ov = .slice aO i cO ∧ PrS w wr g xs.length R aO cO vs bs ∧ ∀ j, j < xs.length → -((i : Int) * 2147483648) ≤ R j ∧ R j ≤ 1073741824) (fun _ iv _ => n - (intOf iv).toNat)
  case atStart => exact ⟨0, _, none, 0, [], [], by omega, rfl, rfl, rfl, HP0.out, fun j hj => by have := Hg.out j hj; omega⟩
  case round =>
    clear HP0 w3
    clear w2
    obtain ⟨i, R, aO, cO, vs, bs, hi, rfl, hbs, rfl, hps, hrb⟩ := hrel
    have H := Lib.hid hps
    have HRb := Lib.hid hrb
    have Hbs := Lib.hid hbs
    clear hps hrb hbs
    obtain ⟨wo, rfl⟩ : ∃ wo : World, wo = wr := ⟨_, rfl⟩
    by_cases hlt : i < n
    · have i1 : (i : Int) < (n : Int) := by omega
      have hri : Ints Any wo (some ⟨g, 0, none⟩) (rowI xs.length R) := Ints.of_row H.out.row (by rw [rowI_length]; exact Nat.le_refl _) (by rw [rowI_length]; simp only [maxLen]; omega) (fun k hk => by rw [rowI_length] at hk; rw [rowI_ix hk]) trivial
      have hsp := split_any (c := xs.length) (T := sn) (by omega) (by omega) hri (by rw [rowI_length]; exact hn) (fun k hk => by rw [rowI_length] at hk; rw [rowI_ix hk]; exact (HRb.out k hk).2)
      rw [rowI_length] at hsp
      have Hsp := Lib.hid hsp
      clear hsp hri
      go_upto_region 18 with (go_at_call 34; refine Hsp.out.mono ?_; rintro e w5 ⟨a', c', ps, er, rfl, m, hres⟩)
      have HM5 := Lib.hid m
      clear m Hsp
      by_cases he : er = 0
      case neg =>
        have hb : (er != 0) = true := bne_iff_ne.2 he
        have He := Lib.hid he
        clear he hres
        go_wp2_with fail
        go_ret3
        exact PressRes.bad (H.out.mod.trans HM5.out) He.out
      subst he
      obtain ⟨hl, hints, hpb⟩ := hres rfl
      rw [rowI_length] at hl
      have H5 := Lib.hid (H.out.frame HM5.out)
      have Hps := Lib.hid (hints.mono (D' := fun b => b ≠ g ∧ some b ≠ blockOf aO) fun b _ hb => ⟨fun e => by
          have h9 := H.out.row.lt
          omega, fun e => by
          have h9 := (own_block H.out.own e.symm).2
          omega⟩)
      have Hpb := Lib.hid hpb
      have HL := Lib.hid hl
      clear hres hints hpb H
      rw [hl]
      clear hl
      obtain ⟨b, off, rfl, hD, hc⟩ := Hps.out.2 (by intro e; have h9 := HL.out; rw [e] at h9; simp at h9; omega)
      have HD := Lib.hid hD
      have Hc := Lib.hid hc
      clear hc hD
      have hb0 : ((0 : Int) != 0) = false := rfl
      go_upto_region 20 with fail
      go_wp2_with fail
      go_loopw [91] (fun jv wr => ∃ (j : Nat), j ≤ xs.length ∧ jv = .int .i64 (j : Int) ∧ Mod (fun b => b = g) w5 wr ∧ PrS w wr g xs.length (midF (fun q => R q - ix ps q) R j) aO cO vs bs) (fun jv _ => xs.length - (intOf jv).toNat)
      case atStart => exact ⟨0, by omega, rfl, Mod.refl _ _, H5.out.congr fun q _ => (midF_ge (Nat.not_lt_zero q)).symm⟩
      case round =>
        clear H5
        obtain ⟨j, hj, rfl, hm, hps⟩ := hrel
        have H := Lib.hid hps
        have HM := Lib.hid hm
        clear hps hm
        obtain ⟨wo2, rfl⟩ : ∃ wo2 : World, wo2 = wr := ⟨_, rfl⟩
        by_cases hlt2 : j < xs.length
        · have j1 : (j : Int) < (xs.length : Int) := by omega
          have c0 := HM.out.cell (Hc.out j (by rw [HL.out]; exact hlt2)).1 HD.out.1
          have c1 := H.out.row.cell (i := j) hlt2
          rw [midF_ge (Nat.lt_irrefl j)] at c1
          have f1 := H.out.row.frozen j
          obtain ⟨q1, q2⟩ := HRb.out j hlt2
          obtain ⟨q3, q4⟩ := Hpb.out j (by rw [HL.out]; exact hlt2)
          go_wp2_with fail
          exact ⟨⟨j + 1, by omega, by go_num, HM.out.set1 j _, H.out.set (k := j) (R' := midF (fun q => R q - ix ps q) R (j + 1)) (fun _ => (midF_at (F' := fun q => R q - ix ps q) (F := R) j).symm) (fun q _ e => midF_step e)⟩, by simp [intOf]; omega⟩
        · have e9 : j = xs.length := by omega
          subst e9
          have HR2 : Hid (∀ q, q < xs.length → -(((i + 1 : Nat) : Int) * 2147483648) ≤ R q - ix ps q ∧ R q - ix ps q ≤ 1073741824) := Lib.hid fun q hq => by
            obtain ⟨q1, q2⟩ := HRb.out q hq
            obtain ⟨q3, q4⟩ := Hpb.out q (by rw [HL.out]; exact hq)
            omega
          have HP := Lib.hid (H.out.congr (R' := fun q => R q - ix ps q) fun q hq => midF_lt (by omega))
          have Hps2 := Lib.hid (Hps.out.mod HM.out fun b _ hb e => hb.1 e)
          clear H HM Hps Hc
          go_upto_region 25 with fail
          have hsz := HP.out.mod.size
          have hmA := (Mod.refl NoBlock wo2).alloc (.cells #[.int .i64 (1 + (i : Int)), .int .i64 kind, .int .i64 5, .slice (some ⟨b, off, none⟩) xs.length c'] 60)
          have hrw := rowIs_new wo2 #[.int .i64 (1 + (i : Int)), .int .i64 kind, .int .i64 5, .slice (some ⟨b, off, none⟩) xs.length c'] 60
          have HA := Lib.hid hmA
          have HW := Lib.hid hrw
          have HO := Lib.hid (HP.out.frame hmA).own
          rw [Hbs.out] at HO
          clear hmA hrw
          go_wp2_with ((with_reducible show wpList _ _ _ _ _ _); refine wpList_append4 (o := ⟨some 113, _, _, _, _, _⟩) rfl (.tmp 104) (.tmp 112) 50 rfl Try.underlying50 infoBal rfl (i + 1) 1 wo2.heap.size (.int .i64 (1 + (i : Int))) (.int .i64 kind) (.int .i64 5) (.slice (some ⟨b, off, none⟩) xs.length c') (by rfl) (by rfl) rfl HO.out HW.out (by simp [Value.oneCell']) (by simp only [maxLen]; omega) (by omega) (by simp; omega) ?_; intro a2 c2 w7 ho hgr hab)
          have HP7 := Lib.hid (PrS.push (y := ⟨1 + (i : Int), kind, 5, ps⟩) (a' := a2) (c' := c2) (w' := w7) (d1 := c') HP.out Hps2.out HA.out (by rw [Hbs.out, HL.out]; exact ho) hgr hab)
          clear HO HW HA HP ho hgr hab
          go_wp2_with fail
          exact ⟨⟨i + 1, _, a2, c2, _, bs ++ [⟨1 + (i : Int), kind, 5, ps⟩], by omega, by go_num, by rw [List.length_append, Hbs.out]; rfl, rfl, HP7.out, HR2.out⟩, by simp [intOf]; omega⟩
    · have e9 : i = n := by omega
      subst e9
      go_wp2_with fail
      go_ret3
      exact ⟨aO, cO, bs, some ⟨g, 0, none⟩, xs.length, xs.length, 0, by rw [Hbs.out]; rfl, H.out.mod, fun _ => H.out.bals (by rw [Hbs.out]; simp only [maxLen]; omega)⟩

end Go.Proofs.Ytnpdkpbecmpdbaa
