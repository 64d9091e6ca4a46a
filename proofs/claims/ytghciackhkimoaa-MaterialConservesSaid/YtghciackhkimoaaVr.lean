/-
  The reference's Divide.
-/
import Derived.Test.YtghciackhkimoaaVq
set_option linter.unusedVariables false
set_option linter.unusedSimpArgs false
namespace Go.Proofs.Ytghciackhkimoaa
open Go.RowKit

set_option maxRecDepth 100000 in
set_option maxHeartbeats 1600000 in
theorem refDivide_any (a : Option Addr) (c : Nat) (xs : List Int) (n : Int) (D : Nat → Prop) (w : World) (hx : Ints D w a xs) :
    Calls Try.prog 29 #[.slice a xs.length c, .int .i64 n] w (MixesErr (divL xs n) w) := by
  have Hc := Lib.hid (fault_any a c xs D w hx)
  have hlx := hx.open.1
  by_cases hf : faultL xs = 0
  · have Hf := Lib.hid hf
    by_cases hlo : n < 1
    · have E := Lib.hid (show divL xs n = ([], 1) by unfold divL; rw [if_pos hf, if_pos (.inl hlo)])
      clear hx hf
      go_enter Try.func29, Try.ntmps29
      go_wp2_with (go_at_call 40; refine Hc.out.mono ?_; rintro e w9 ⟨rfl, rfl⟩; rw [Hf.out])
      go_ret2
      rw [E.out]
      exact ⟨Option.none, 0, rfl, Nat.le_refl _, Mod.refl _ _, Mixes.nil _ _ _⟩
    by_cases hhi : 64 < n
    · have E := Lib.hid (show divL xs n = ([], 1) by unfold divL; rw [if_pos hf, if_pos (.inr hhi)])
      clear hx hf
      go_enter Try.func29, Try.ntmps29
      go_wp2_with (go_at_call 40; refine Hc.out.mono ?_; rintro e w9 ⟨rfl, rfl⟩; rw [Hf.out])
      go_ret2
      rw [E.out]
      exact ⟨Option.none, 0, rfl, Nat.le_refl _, Mod.refl _ _, Mixes.nil _ _ _⟩
    · obtain ⟨N, rfl⟩ : ∃ N : Nat, n = N := ⟨n.toNat, by omega⟩
      have E := Lib.hid (show divL xs N = (partsL xs N, 0) by unfold divL; rw [if_pos hf, if_neg (by omega)]; rfl)
      obtain ⟨l16, hg⟩ := ok_of_fault hf
      have Hg := Lib.hid hg
      have Hx := Lib.hid hx
      have n1 : (1 : Int) ≤ N := by omega
      have n2 : (N : Int) ≤ 64 := by omega
      clear hx hf hg
      go_enter Try.func29, Try.ntmps29
      go_wp2_with (go_at_call 40; refine Hc.out.mono ?_; rintro e w9 ⟨rfl, rfl⟩; rw [Hf.out])
      go_loopw [7, 8, 9, 10] (fun o i u v wr => ∃ (k : Nat) (ao : Option Addr) (co : Nat), k ≤ N ∧ i = .int .i64 k ∧ o = .slice ao k co ∧ Mod NoBlock w wr ∧ OwnRows wr w.heap.size 30 ao co ((partsL xs N).take k)) (fun _ i _ _ _ => N - (intOf i).toNat)
      case atStart => exact ⟨0, Option.none, 0, by omega, rfl, rfl, Mod.refl _ _, OwnRows.nil _ _ _⟩
      case round =>
        obtain ⟨k, ao, co, hk, rfl, rfl, hm, hrows⟩ := hrel
        have Hm := Lib.hid hm
        have Hrows := Lib.hid hrows
        clear hm hrows
        by_cases hlt : k < N
        · obtain ⟨row, hrow⟩ : ∃ row, rx (partsL xs N) k = row := ⟨_, rfl⟩
          have Hrow := Lib.hid hrow
          have Hlen := Lib.hid (show row.length = xs.length by rw [← hrow, rx_partsL hlt]; simp)
          have Hix := Lib.hid (fun j (hj : j < xs.length) => (show ix row j = partN N (ix xs j) k by rw [← hrow, ix_part hlt hj]))
          clear hrow
          obtain ⟨wo, rfl⟩ : ∃ wo : World, wo = wr := ⟨_, rfl⟩
          go_wp2
          go_loopw [9, 10] (fun o i wr => ∃ (j : Nat) (ax : Option Addr) (cx : Nat), j ≤ xs.length ∧ i = .int .i64 j ∧ o = .slice ax j cx ∧ Mod NoBlock wo wr ∧ Own wr wo.heap.size 3 ax cx ((row.take j).map (Value.int .i64))) (fun _ i _ => xs.length - (intOf i).toNat)
          case atStart => exact ⟨0, Option.none, 0, by omega, rfl, rfl, Mod.refl _ _, Own.nil _ _ _⟩
          case round =>
            obtain ⟨j, ax, cx, hj, rfl, rfl, hm2, hown⟩ := hrel
            have Hm2 := Lib.hid hm2
            have Hown := Lib.hid hown
            clear hm2 hown
            by_cases hjl : j < xs.length
            · obtain ⟨_, b, off, ha, hcl⟩ := (Hx.out.frame (Hm.out.trans Hm2.out)).open
              have hcell := hcl j hjl
              obtain rfl := ha (by intro h; simp [h] at hjl)
              obtain ⟨x0, x1⟩ := Hg.out j hjl
              have hval := Hix.out j hjl
              obtain ⟨x, hxd⟩ : ∃ x, ix xs j = x := ⟨_, rfl⟩
              rw [hxd] at hcell x0 x1 hval
              obtain ⟨q, hq⟩ : ∃ q, x / (N : Int) = q := ⟨_, rfl⟩
              obtain ⟨r, hr⟩ : ∃ r, x % (N : Int) = r := ⟨_, rfl⟩
              have eq1 : x.tdiv N = q := by rw [Int.tdiv_eq_ediv_of_nonneg x0]; exact hq
              have er1 : x.tmod N = r := by rw [Int.tmod_eq_emod_of_nonneg x0]; exact hr
              have hq0 : 0 ≤ q := by rw [← hq]; exact Int.ediv_nonneg x0 (by omega)
              have hq1 : q ≤ 1073741824 := by rw [← hq]; exact Int.le_trans (Int.ediv_le_self _ x0) x1
              have hval2 : ix row j = q + if (k : Int) < r then 1 else 0 := by rw [hval]; unfold partN; rw [hq, hr]
              have hlen := Hlen.out
              have Htk := Lib.hid (take_ix (l := row) (k := j) (by omega))
              have Htl := Lib.hid (show ((row.take j).map (Value.int .i64)).length = j by rw [List.length_map, List.length_take]; omega)
              have hB := Hm2.out.size
              have q1 : (0 : Int) ≤ (j : Int) := by omega
              have q2 : (j : Int) < (xs.length : Int) := by omega
              have z2 : (0 : Int) < N := by omega
              have z : ((N : Int) == 0) = false := by rw [beq_eq_false_iff_ne]; omega
              by_cases hkr : (k : Int) < r
              · have hd : decide ((k : Int) < r) = true := decide_eq_true hkr
                have Hv := Lib.hid (show ix row j = q + 1 by rw [hval2, if_pos hkr])
                clear ha hcl hxd hval hval2 hlen hq hr
                go_wp2_with (at_builtin; refine wpList_append1 (vs := (row.take j).map (Value.int .i64)) rfl (.tmp 41) (.tmp 49) _ rfl elemMix j 1 (j + 1) 1 [.int .i64 (q + 1)] rfl rfl Htl.out.symm (by simp) (by omega) (Hown.out.alloc _) (Src.one _ _ _) (by simp [Value.oneCell']) (by simp only [maxLen]; omega) (by omega) (by simp; omega) ?_; intro a3 c3 w3 hown3 hgrow hat3)
                have hm3 : Mod NoBlock wo w3 := (Hm2.out.alloc _).grown hgrow fun b hb => .inr (Hown.out.lt hb).1
                have hown4 : Own w3 wo.heap.size 3 a3 c3 ((row.take (j + 1)).map (Value.int .i64)) := by
                  rw [Htk.out, List.map_append, Hv.out]; exact hown3
                have Hm3 := Lib.hid hm3
                have Hown4 := Lib.hid hown4
                clear hm3 hown4 hown3 hgrow hat3
                go_wp2
                exact ⟨⟨j + 1, a3, c3, by omega, by go_num, rfl, Hm3.out, Hown4.out⟩, by simp [intOf]; omega⟩
              · have hd : decide ((k : Int) < r) = false := decide_eq_false hkr
                have Hv := Lib.hid (show ix row j = q by rw [hval2, if_neg hkr]; omega)
                clear ha hcl hxd hval hval2 hlen hq hr
                go_wp2_with (at_builtin; refine wpList_append1 (vs := (row.take j).map (Value.int .i64)) rfl (.tmp 51) (.tmp 58) _ rfl elemMix j 1 (j + 1) 1 [.int .i64 q] rfl rfl Htl.out.symm (by simp) (by omega) (Hown.out.alloc _) (Src.one _ _ _) (by simp [Value.oneCell']) (by simp only [maxLen]; omega) (by omega) (by simp; omega) ?_; intro a3 c3 w3 hown3 hgrow hat3)
                have hm3 : Mod NoBlock wo w3 := (Hm2.out.alloc _).grown hgrow fun b hb => .inr (Hown.out.lt hb).1
                have hown4 : Own w3 wo.heap.size 3 a3 c3 ((row.take (j + 1)).map (Value.int .i64)) := by
                  rw [Htk.out, List.map_append, Hv.out]; exact hown3
                have Hm3 := Lib.hid hm3
                have Hown4 := Lib.hid hown4
                clear hm3 hown4 hown3 hgrow hat3
                go_wp2
                exact ⟨⟨j + 1, a3, c3, by omega, by go_num, rfl, Hm3.out, Hown4.out⟩, by simp [intOf]; omega⟩
            · obtain rfl : j = xs.length := by omega
              obtain ⟨vs, hov, hvals⟩ := Hrows.out
              have hvl : vs.length = k := by rw [hvals.1, List.length_take, partsL_length]; omega
              have hown := Hown.out
              rw [List.take_of_length_le (by rw [Hlen.out]; exact Nat.le_refl _)] at hown
              have hne : ∀ b, blockOf ao = some b → b < wo.heap.size := fun b e => (hov.lt e).2
              have hxr : Ints (fun b => w.heap.size ≤ b ∧ some b ≠ blockOf ao) wr ax row :=
                (hown.ints (D := fun b => wo.heap.size ≤ b) (fun b hb _ => hb) (by rw [Hlen.out]; exact hlx)).mono fun b _ hb => ⟨Nat.le_trans Hm.out.size hb, fun e => by have := hne b e.symm; omega⟩
              have Hov := Lib.hid (hov.mod Hm2.out fun _ _ => id)
              have Hvals := Lib.hid (hvals.mod Hm2.out fun _ _ _ h => h)
              have Hxr := Lib.hid hxr
              have Hvl := Lib.hid hvl
              have hBs := Nat.le_trans Hm.out.size Hm2.out.size
              clear hov hvals hown hne hxr hvl
              go_wp2_with (at_builtin; refine wpList_append1 (vs := vs) rfl (.tmp 60) (.tmp 62) _ rfl elemMixes k 1 (k + 1) 1 [.slice ax xs.length cx] rfl rfl Hvl.out.symm (by simp) (by omega) (Hov.out.alloc _) (Src.one _ _ _) (by simp [Value.oneCell']) (by simp only [maxLen]; omega) (by omega) (by simp; omega) ?_; intro a4 c4 w4 hown4 hgrow4 hat4)
              have hrows4 : OwnRows w4 w.heap.size 30 a4 c4 ((partsL xs N).take k ++ [row]) :=
                OwnRows.snoc (xs := row) Hvals.out Hxr.out ((Mod.refl NoBlock wr).alloc _) (by rw [Hlen.out]; exact hown4) hgrow4 hat4
              rw [← Hrow.out, ← take_rx (by rw [partsL_length]; exact hlt)] at hrows4
              have hmod4 : Mod NoBlock w w4 := ((Hm.out.trans Hm2.out).alloc _).grown hgrow4 fun b hb => .inr (Hov.out.lt hb).1
              have Hrows4 := Lib.hid hrows4
              have Hmod4 := Lib.hid hmod4
              clear hown4 hgrow4 hat4 hrows4 hmod4
              go_wp2
              exact ⟨⟨k + 1, a4, c4, by omega, by go_num, rfl, Hmod4.out, Hrows4.out⟩, by simp [intOf]; omega⟩
        · obtain rfl : k = N := by omega
          go_wp2
          go_ret2
          rw [E.out]
          have hr := Hrows.out
          rw [List.take_of_length_le (by rw [partsL_length]; exact Nat.le_refl _)] at hr
          have hc9 := hr.cap
          refine ⟨ao, co, by rw [partsL_length]; rfl, hc9, Hm.out, hr.mixes (fun b hb _ => hb) (by rw [partsL_length]; simp only [maxLen]; omega)⟩
  · have E := Lib.hid (show divL xs n = ([], faultL xs) by unfold divL; rw [if_neg hf])
    have hne : (faultL xs != 0) = true := by simpa using hf
    clear hx hf
    go_enter Try.func29, Try.ntmps29
    go_wp2_with (go_at_call 40; refine Hc.out.mono ?_; rintro e w9 ⟨rfl, rfl⟩)
    go_ret2
    rw [E.out]
    exact ⟨Option.none, 0, rfl, Nat.le_refl _, Mod.refl _ _, Mixes.nil _ _ _⟩

end Go.Proofs.Ytghciackhkimoaa
