/-
  share.Split walked.
-/
import Derived.Test.YtnpdkpbecmpdbaaPd
import Derived.Deep.DeepCutAuto
import Derived.Deep.CutBlock
import Derived.Deep.LoopGhost
set_option linter.unusedVariables false
set_option linter.unusedSimpArgs false
namespace Go.Proofs.Ytnpdkpbecmpdbaa
open Go.RowKit

set_option maxRecDepth 100000 in
set_option maxHeartbeats 6400000 in
theorem split_any {T : Nat} {a : Option Addr} {c : Nat} {xs : List Int} {D : Nat → Prop} {w : World} (hT0 : 0 < T) (hT : T ≤ 1073741824) (hx : Ints D w a xs) (hn : xs.length ≤ 16) (hb : ∀ k, k < xs.length → ix xs k ≤ 1073741824) :
    Calls Try.prog 34 #[.int .i64 (T : Int), .slice a xs.length c] w (SpRes xs w) := by
  have t0 : ¬ ((T : Int) < 0) := by omega
  have t1 : (T : Int) ≤ 70368744177664 := by omega
  have t2 : (0 : Int) < (T : Int) := by omega
  have HX := Lib.hid hx
  have Hb := Lib.hid hb
  have HW := Lib.hid (weighed_any (c := c) hx hn hb)
  clear hx hb
  have hmk := run_make_row' (P := Try.prog) 31 3 (.int .i64 0) 8 Try.underlying31 infoIntM rfl .i64 .i64 xs.length (by omega) (by omega)
  obtain ⟨mc, hmc⟩ : ∃ mc, madeCells #[.int .i64 0] xs.length = mc := ⟨_, rfl⟩
  have HMc := Lib.hid (madeIs xs.length)
  rw [hmc] at hmk HMc
  clear hmc
  go_enter Try.func34, Try.ntmps34
  go_upto_region 4 with (go_at_call 49; refine HW.out.mono ?_; rintro e w1 ⟨s, er, rfl, m, hres⟩)
  have M1 := Lib.hid m
  clear m HW
  by_cases he : er = 0
  case neg =>
    have hb0 : (er != 0) = true := bne_iff_ne.2 he
    have He := Lib.hid he
    clear he hres
    go_wp2_with fail
    go_ret2
    exact SpRes.bad M1.out He.out
  subst he
  obtain ⟨hne, hp, hs⟩ := hres rfl
  have hb0 : ((0 : Int) != 0) = false := rfl
  clear hres
  by_cases hs0 : s = 0
  · have s0 : (s == 0) = true := by simpa using hs0
    clear hs0 hs
    go_wp2_with fail
    go_ret2
    exact SpRes.bad M1.out (by decide)
  have s0 : (s == 0) = false := by simpa using hs0
  have hsum := sum_ge hp
  obtain ⟨sn, rfl⟩ : ∃ sn : Nat, s = (sn : Int) := ⟨s.toNat, by omega⟩
  have sn0 : (0 : Int) < (sn : Int) := by omega
  have HP := Lib.hid hp
  have HSum := Lib.hid hs
  clear hp hs hs0 hsum
  go_upto_region 8 with fail
  go_cut [8, 9, 10] (fun s8 s9 s10 wx => ∃ bp B br bo, s8 = .slice (some ⟨bp, 0, none⟩) xs.length xs.length ∧ s9 = .pointer (some ⟨B, 0, none⟩) ∧ s10 = .slice (some ⟨bo, 0, none⟩) xs.length xs.length ∧ Hid (SpS w1 wx bp B br bo xs.length (fun _ => 0) (fun _ => 0) (fun _ => 0)))
  case first =>
    go_region
    all_goals (go_wp2_with fail; go_meet)
    all_goals (
      refine ⟨_, _, ?_, _, rfl, rfl, rfl, Lib.hid (sp_made ?_ ?_ ?_ ?_ ?_ ?_)⟩
      rotate_left
      · (first | with_reducible exact box0 _ _ _ _ _ | with_reducible exact box1 _ _ _ _ _ | with_reducible exact box2 _ _ _ _ _ | with_reducible exact box3 _ _ _ _ _)
      · (first | with_reducible exact made0 _ _ _ _ HMc.out | with_reducible exact made1 _ _ _ _ HMc.out | with_reducible exact made2 _ _ _ _ HMc.out | with_reducible exact made3 _ _ _ _ HMc.out)
      · (first | with_reducible exact made0 _ _ _ _ HMc.out | with_reducible exact made1 _ _ _ _ HMc.out | with_reducible exact made2 _ _ _ _ HMc.out | with_reducible exact made3 _ _ _ _ HMc.out)
      · (first | with_reducible exact made0 _ _ _ _ HMc.out | with_reducible exact made1 _ _ _ _ HMc.out | with_reducible exact made2 _ _ _ _ HMc.out | with_reducible exact made3 _ _ _ _ HMc.out)
      · (clear hmk; refine ⟨?_, ?_, ?_, ?_, ?_, ?_⟩ <;> omega)
      · (clear hmk; refine ⟨?_, ?_, ?_, ?_⟩ <;> omega))
  case rest =>
    obtain ⟨bp, B, br, bo, rfl, rfl, rfl, Hs⟩ := hcut
    clear hmk HMc
    have hsl : sn ≤ 17179869184 := by
      have h9 := sum_le Hb.out
      have h8 := HSum.out
      have h7 : (xs.length : Int) * 1073741824 ≤ 16 * 1073741824 := by omega
      omega
    have HXw := Lib.hid (HX.out.frame M1.out)
    obtain ⟨_, b, off, ha, hc⟩ := HXw.out.open
    have Ha := Lib.hid ha
    have Hc := Lib.hid hc
    clear ha hc
    have w1T : IntKind.u64.wrap (T : Int) = (T : Int) := by rw [IntKind.wrap_u64]; omega
    have w1s : IntKind.u64.wrap (sn : Int) = (sn : Int) := by rw [IntKind.wrap_u64]; omega
    have sn1 : 0 < sn := by omega
    go_wp2_with fail
    go_loopw [11, 52] (fun lv iv wr => ∃ (k Q X : Nat) (p r : Nat → Int) (o : Nat → Nat), k ≤ xs.length ∧ iv = .int .i64 (k : Int) ∧ lv = .int .i64 ((T : Int) - (Q : Int)) ∧ SpS w1 wr bp B br bo xs.length p r o ∧ SpI T sn xs k Q X p r o) (fun _ iv _ => xs.length - (intOf iv).toNat)
    case atStart => exact ⟨0, 0, 0, _, _, _, by omega, rfl, by simp, Hs.out, SpI.zero _ _ _⟩
    case round =>
      clear Hs
      obtain ⟨k, Q, X, p, r, o, hk, rfl, rfl, hsp, hsi⟩ := hrel
      have H := Lib.hid hsp
      have HI := Lib.hid hsi
      have hQT := hsi.leT sn1 HSum.out HP.out
      clear hsp hsi
      obtain ⟨wo, rfl⟩ : ∃ wo : World, wo = wr := ⟨_, rfl⟩
      by_cases hlt : k < xs.length
      · obtain rfl := Ha.out (by intro e; subst e; simp at hlt)
        have k1 : (k : Int) < (xs.length : Int) := by omega
        have c0 := H.out.mod.cell (Hc.out k hlt) id
        have x0 := HP.out k hlt
        have x1 := Hb.out k hlt
        obtain ⟨x, hx⟩ : ∃ x : Nat, ix xs k = (x : Int) := ⟨(ix xs k).toNat, by omega⟩
        rw [hx] at c0 x0 x1
        obtain ⟨q, hq⟩ : ∃ q, T * x = q := ⟨_, rfl⟩
        obtain ⟨d, hd⟩ : ∃ d, q / sn = d := ⟨_, rfl⟩
        obtain ⟨m, hm⟩ : ∃ m, q % sn = m := ⟨_, rfl⟩
        obtain ⟨hsi, hQd⟩ := HI.out.step sn1 hT hsl hlt hx HSum.out HP.out hq hd hm
        have hq2 : q ≤ 1152921504606846976 := by
          have h9 : T * x ≤ 1073741824 * 1073741824 := Nat.mul_le_mul hT (by omega)
          omega
        have hm2 : m < sn := by rw [← hm]; exact Nat.mod_lt _ sn1
        have HI2 := Lib.hid hsi
        have Hmul := Lib.hid fun w' => mul_any T x q hT (by omega) hq w'
        have Hdiv := Lib.hid fun w' => div_any q sn d m sn1 (by omega) hq2 hd hm w'
        have w1x : IntKind.u64.wrap (x : Int) = (x : Int) := by rw [IntKind.wrap_u64]; omega
        have w1d : IntKind.i64.wrap (d : Int) = (d : Int) := IntWalk.i64_in _ (by omega)
        have w1m : IntKind.i64.wrap (m : Int) = (m : Int) := IntWalk.i64_in _ (by omega)
        have f1 := H.out.ho.frozen k
        have c1 := H.out.ho.cell (i := k) hlt
        clear hsi HI hq hd hm hx hq2
        go_upto_region 14 with fail
        have hns := H.out.setO (k := k) (x := k) (o' := updS o k k) (fun _ => (updS_at _ _ _).symm) (fun j _ e => (updS_ne e).symm)
        generalize wo.setCell ⟨bo, k, none⟩ (.int .i64 (k : Int)) = w2 at hns ⊢
        clear c0 c1 f1 H
        have H := Lib.hid hns
        clear hns
        go_upto_region 17 with (first
          | (go_at_call 50; refine (Hmul.out _).mono ?_; rintro e w3 ⟨rfl, rfl⟩)
          | (go_at_call 51; refine (Hdiv.out _).mono ?_; rintro e w3 ⟨rfl, hdr⟩))
        have H := Lib.hid (H.out.drawn hdr)
        have f2 := H.out.hp.frozen k
        have c2 := H.out.hp.cell (i := k) hlt
        have hP := H.out.setP (k := k) (x := (d : Int)) (p' := updS p k (d : Int)) (fun _ => (updS_at _ _ _).symm) (fun j _ e => (updS_ne e).symm)
        have f3 := hP.hr.frozen k
        have c3 := hP.hr.cell (i := k) hlt
        have cb := H.out.box
        have cb2 := hP.box
        have hns := (hP.setR (k := k) (x := (m : Int)) (r' := updS r k (m : Int)) (fun _ => (updS_at _ _ _).symm) (fun j _ e => (updS_ne e).symm)).drew
        have Hns := Lib.hid hns
        clear hns hP hdr
        go_region
        replace Hns := Lib.hid Hns.out
        have hns := Hns.out
        generalize ((w3.setCell ⟨bp, k, none⟩ (.int .i64 (d : Int))).setCell ⟨br, k, none⟩ (.int .i64 (m : Int))).drew = w4 at hns ⊢
        clear Hns f2 c2 f3 c3 cb cb2 H
        have c4 : w4.cell? ⟨bp, k, none⟩ = some (.int .i64 (d : Int)) := by
          have h9 := hns.hp.cell (i := k) hlt
          rw [updS_at] at h9
          exact h9
        have Hns := Lib.hid hns
        clear hns
        go_wp2_with fail
        exact ⟨⟨k + 1, Q + d, X + x, _, _, _, by omega, by go_num, by rw [Int.natCast_add]; exact congrArg (Value.int IntKind.i64) (by omega), Hns.out, HI2.out⟩, by simp [intOf]; omega⟩
      · have e9 : k = xs.length := by omega
        subst e9
        obtain ⟨hq1, hq2⟩ := HI.out.last sn1 HSum.out
        obtain ⟨L, hL⟩ : ∃ L : Nat, (T : Int) - (Q : Int) = (L : Int) := ⟨T - Q, by omega⟩
        rw [hL]
        have l1 : (L : Int) ≤ (xs.length : Int) := by omega
        have HSo := Lib.hid (sort_any (H.out.rests HI.out.rb hn) ⟨H.out.ho, fun j hj => by rw [HI.out.ob j hj]; exact hj⟩ (by have := H.out.ne; omega) (by have := H.out.ne; omega) hn)
        clear hL hq1 hq2
        go_wp2_with (go_at_call 52; refine HSo.out.mono ?_; rintro e w3 ⟨rfl, hso⟩)
        obtain ⟨o', hsp, hob⟩ := H.out.sorted hso
        have H2 := Lib.hid hsp
        have Ho := Lib.hid hob
        clear hso hsp hob HSo
        go_wp2_with fail
        go_loopw [103] (fun iv wr => ∃ (j : Nat) (p : Nat → Int), j ≤ L ∧ iv = .int .i64 (j : Int) ∧ SpS w1 wr bp B br bo xs.length p r o' ∧ ∀ i, i < xs.length → 0 ≤ p i ∧ p i ≤ 1073741824 + j) (fun iv _ => L - (intOf iv).toNat)
        case atStart => exact ⟨0, p, by omega, rfl, H2.out, fun i hi => by have := HI.out.pb i hi; omega⟩
        case round =>
          clear H2 H HI
          obtain ⟨j, p2, hj, rfl, hsp, hpb⟩ := hrel
          have H := Lib.hid hsp
          have HPb := Lib.hid hpb
          clear hsp hpb
          obtain ⟨wo2, rfl⟩ : ∃ wo2 : World, wo2 = wr := ⟨_, rfl⟩
          by_cases hlt2 : j < L
          · have j1 : (j : Int) < (L : Int) := by omega
            have d1 := H.out.ho.cell (i := j) (by omega)
            have o1 := Ho.out j (by omega)
            obtain ⟨z, hz⟩ : ∃ z, o' j = z := ⟨_, rfl⟩
            rw [hz] at d1 o1
            clear hz
            have z1 : (z : Int) < (xs.length : Int) := by omega
            have d2 := H.out.hp.cell (i := z) o1
            have f2 := H.out.hp.frozen z
            obtain ⟨b1, b2⟩ := HPb.out z o1
            go_wp2_with fail
            refine ⟨⟨j + 1, updS p2 z (p2 z + 1), by omega, by go_num, H.out.setP (fun _ => (updS_at _ _ _).symm) (fun i _ e => (updS_ne e).symm), fun i hi => ?_⟩, by simp [intOf]; omega⟩
            by_cases e : i = z
            · rw [e, updS_at]; omega
            · rw [updS_ne e]; have := HPb.out i hi; omega
          · go_wp2_with fail
            go_ret2
            have hlen := rowI_length xs.length p2
            refine ⟨some ⟨bp, 0, none⟩, xs.length, rowI xs.length p2, 0, by rw [hlen]; rfl, M1.out.trans H.out.mod, fun _ => ⟨hlen, H.out.ints M1.out.size hn, fun i hi => ?_⟩⟩
            rw [hlen] at hi
            rw [rowI_ix hi]
            have := HPb.out i hi
            omega

end Go.Proofs.Ytnpdkpbecmpdbaa
