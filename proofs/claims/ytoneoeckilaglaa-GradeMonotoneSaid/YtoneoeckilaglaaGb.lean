/-
  grade.Check, Better; the reference's.
-/
import Derived.Test.YtoneoeckilaglaaRows
import Derived.Test.YtoneoeckilaglaaGa
set_option linter.unusedVariables false
set_option linter.unusedSimpArgs false
namespace Go.Proofs.Ytoneoeckilaglaa
open Go.RowKit

set_option maxRecDepth 100000 in
set_option maxHeartbeats 1600000 in
theorem gradeCheck_any (a : Option Addr) (c : Nat) (l : List (Int × Int)) (D : Nat → Prop) (w : World) (hx : Grs D w a l) :
    Calls Try.prog 10 #[.slice a l.length c] w fun e w' => e = .returned (.int .i64 (chkG l)) ∧ Mod NoBlock w w' := by
  obtain ⟨lx, b, o, ha, hc⟩ := hx.open
  have Ha := Lib.hid ha
  have Hc := Lib.hid hc
  clear hx ha hc
  by_cases h0 : l.length = 0
  · have E := Lib.hid (chkG_nil h0)
    have h0' : ((l.length : Int) == 0) = true := by rw [beq_iff_eq]; omega
    clear h0
    go_enter Try.func10, Try.ntmps10
    go_wp2
    go_ret
    exact ⟨ret_int E.out.symm, Mod.refl _ _⟩
  have h0' : ((l.length : Int) == 0) = false := by rw [beq_eq_false_iff_ne]; omega
  by_cases hl : 8 < l.length
  · have E := Lib.hid (chkG_long hl)
    clear h0
    go_enter Try.func10, Try.ntmps10
    go_wp2
    go_ret
    exact ⟨ret_int E.out.symm, Mod.refl _ _⟩
  have hl1 : 1 ≤ l.length := by omega
  have Ebad := Lib.hid (fun hf => chkG_bad h0 hl hf)
  have Eok := Lib.hid (fun hf => chkG_fine h0 hl hf)
  clear h0
  go_enter Try.func10, Try.ntmps10
  go_wp2
  go_loopw [4, 14] (fun p i wr => ∃ k : Nat, k ≤ l.length ∧ i = .int .i64 k ∧ (l.drop k).any badG = l.any badG ∧ Mod NoBlock w wr) (fun _ i _ => l.length - (intOf i).toNat)
  case atStart => exact ⟨0, by omega, rfl, rfl, Mod.refl _ _⟩
  case round =>
    obtain ⟨k, hk, rfl, hr, hm⟩ := hrel
    have Hr := Lib.hid hr
    have Hm := Lib.hid hm
    clear hr hm
    by_cases hlt : k < l.length
    · have h1 := Hm.out.cell (Hc.out k hlt).1 (fun h => h)
      have h2 := Hm.out.cell (Hc.out k hlt).2 (fun h => h)
      obtain rfl := Ha.out (by intro h; simp [h] at hlt)
      have e := Lib.hid (show (l.drop k).any badG = (badG (gx l k) || (l.drop (k + 1)).any badG) by rw [drop_gx hlt]; rfl)
      have Hb := Lib.hid (badG_true (x := gx l k))
      have Hg := Lib.hid (badG_false (x := gx l k))
      generalize gx l k = g at *
      obtain ⟨p, q⟩ := g
      have Hbad := Lib.hid (fun (h : p < 0 ∨ 1000 < p ∨ q < -1000000 ∨ 1000000 < q) => Ebad.out (by rw [← Hr.out, e.out, Hb.out.2 h]; rfl))
      by_cases c1 : p < 0
      · have H := Lib.hid (Hbad.out (.inl c1))
        go_wp2
        go_ret
        exact ⟨ret_int H.out.symm, Hm.out.alloc _⟩
      by_cases c2 : 1000 < p
      · have H := Lib.hid (Hbad.out (.inr (.inl c2)))
        go_wp2
        go_ret
        exact ⟨ret_int H.out.symm, Hm.out.alloc _⟩
      by_cases c3 : q < -1000000
      · have H := Lib.hid (Hbad.out (.inr (.inr (.inl c3))))
        go_wp2
        go_ret
        exact ⟨ret_int H.out.symm, Hm.out.alloc _⟩
      by_cases c4 : 1000000 < q
      · have H := Lib.hid (Hbad.out (.inr (.inr (.inr c4))))
        go_wp2
        go_ret
        exact ⟨ret_int H.out.symm, Hm.out.alloc _⟩
      · have H := Lib.hid (Hg.out.2 (show ¬ (p < 0 ∨ 1000 < p ∨ q < -1000000 ∨ 1000000 < q) by omega))
        go_wp2
        exact ⟨⟨k + 1, by omega, by go_num, by rw [← Hr.out, e.out, H.out]; rfl, Hm.out.alloc _⟩, by simp [intOf]; omega⟩
    · have hf : l.any badG = false := by rw [← Hr.out, List.drop_eq_nil_of_le (by omega)]; rfl
      have E := Lib.hid (Eok.out hf)
      clear hf
      go_wp2
      go_loopw [5] (fun i wr => ∃ k : Nat, k + 1 ≤ l.length ∧ i = .int .i64 ((k : Int) + 1) ∧ unTo l k = false ∧ Mod NoBlock w wr) (fun i _ => l.length - (intOf i).toNat)
      case atStart => exact ⟨0, hl1, rfl, rfl, Hm.out⟩
      case round =>
        obtain ⟨j, hj, rfl, hd, hm2⟩ := hrel
        have Hd := Lib.hid hd
        have Hm2 := Lib.hid hm2
        clear hd hm2
        by_cases hjl : j + 1 < l.length
        · have h1 := Hm2.out.cell (Hc.out j (by omega)).1 (fun h => h)
          have h2 := Hm2.out.cell (Hc.out j (by omega)).2 (fun h => h)
          have h3 := Hm2.out.cell (Hc.out (j + 1) hjl).1 (fun h => h)
          have h4 := Hm2.out.cell (Hc.out (j + 1) hjl).2 (fun h => h)
          obtain rfl := Ha.out (by intro h; simp [h] at hjl)
          have Hst := Lib.hid (stepG_true (l := l) (i := j))
          have Hsf := Lib.hid (stepG_false (l := l) (i := j))
          obtain ⟨p, hp⟩ : ∃ p, (gx l j).1 = p := ⟨_, rfl⟩
          obtain ⟨q, hq⟩ : ∃ p, (gx l j).2 = p := ⟨_, rfl⟩
          obtain ⟨p', hp'⟩ : ∃ p, (gx l (j + 1)).1 = p := ⟨_, rfl⟩
          obtain ⟨q', hq'⟩ : ∃ p, (gx l (j + 1)).2 = p := ⟨_, rfl⟩
          rw [hp] at h1 Hst Hsf
          rw [hq] at h2 Hst Hsf
          rw [hp'] at h3 Hst Hsf
          rw [hq'] at h4 Hst Hsf
          have e1 : IntKind.i64.wrap ((j : Int) + 1 - 1) = (j : Int) := by rw [IntWalk.i64_in _ (by omega)]; omega
          have e2 : ((j : Int) + 1).toNat = j + 1 := by omega
          have b1 : (0 : Int) ≤ (j : Int) + 1 := by omega
          have b2 : (j : Int) + 1 < (l.length : Int) := by omega
          have b3 : (0 : Int) ≤ (j : Int) := by omega
          have b4 : (j : Int) < (l.length : Int) := by omega
          clear hp hq hp' hq'
          by_cases t1 : p ≤ p'
          · have Hdup := Lib.hid (unTo_of (k := l.length - 1) (by omega) (Hst.out.2 (.inl t1)))
            have d1 : decide (p ≤ p') = true := decide_eq_true t1
            go_wp2
            go_quiet (fail)
            go_wp2
            go_ret
            exact ⟨ret_int (by rw [E.out, Hdup.out]; rfl), Hm2.out.drewN _⟩
          have d1 : decide (p ≤ p') = false := decide_eq_false t1
          by_cases t2 : q < q'
          · have Hdup := Lib.hid (unTo_of (k := l.length - 1) (by omega) (Hst.out.2 (.inr t2)))
            have d2 : decide (q < q') = true := decide_eq_true t2
            go_wp2
            go_quiet (fail)
            go_wp2
            go_ret
            exact ⟨ret_int (by rw [E.out, Hdup.out]; rfl), Hm2.out.drewN _⟩
          · have Hs := Lib.hid (Hsf.out.2 (by omega))
            have d2 : decide (q < q') = false := decide_eq_false t2
            go_wp2
            go_quiet (fail)
            go_wp2
            exact ⟨⟨j + 1, by omega, by go_num, by rw [unTo_succ, Hd.out, Hs.out]; rfl, Hm2.out.drewN _⟩, by simp [intOf]; omega⟩
        · have hjj : j = l.length - 1 := by omega
          have Hd2 := Lib.hid (show unTo l (l.length - 1) = false by rw [← hjj]; exact Hd.out)
          clear hjj
          go_wp2
          go_ret
          exact ⟨ret_int (by rw [E.out, Hd2.out]; rfl), Hm2.out⟩

set_option maxRecDepth 100000 in
set_option maxHeartbeats 1600000 in
theorem refGrades_any (a : Option Addr) (c : Nat) (l : List (Int × Int)) (D : Nat → Prop) (w : World) (hx : Grs D w a l) :
    Calls Try.prog 11 #[.slice a l.length c] w fun e w' => e = .returned (.int .i64 (chkG l)) ∧ Drawn w w' := by
  obtain ⟨lx, b, o, ha, hc⟩ := hx.open
  have Ha := Lib.hid ha
  have Hc := Lib.hid hc
  clear hx ha hc
  by_cases h0 : l.length = 0
  · have E := Lib.hid (chkG_nil h0)
    have h0' : ((l.length : Int) == 0) = true := by rw [beq_iff_eq]; omega
    clear h0
    go_enter Try.func11, Try.ntmps11
    go_wp2
    go_ret
    exact ⟨ret_int E.out.symm, Drawn.refl _⟩
  have h0' : ((l.length : Int) == 0) = false := by rw [beq_eq_false_iff_ne]; omega
  by_cases hl : 8 < l.length
  · have E := Lib.hid (chkG_long hl)
    clear h0
    go_enter Try.func11, Try.ntmps11
    go_wp2
    go_ret
    exact ⟨ret_int E.out.symm, Drawn.refl _⟩
  have hl1 : 1 ≤ l.length := by omega
  have Ebad := Lib.hid (fun hf => chkG_bad h0 hl hf)
  have Eok := Lib.hid (fun hf => chkG_fine h0 hl hf)
  clear h0
  go_enter Try.func11, Try.ntmps11
  go_wp2
  go_loop [3] (fun i => ∃ k : Nat, k ≤ l.length ∧ i = .int .i64 k ∧ (l.drop k).any badG = l.any badG) (fun i => l.length - (intOf i).toNat)
  case atStart => exact ⟨0, by omega, rfl, rfl⟩
  case round =>
    obtain ⟨k, hk, rfl, hr⟩ := hrel
    have Hr := Lib.hid hr
    clear hr
    by_cases hlt : k < l.length
    · have h1 := (Hc.out k hlt).1
      have h2 := (Hc.out k hlt).2
      obtain rfl := Ha.out (by intro h; simp [h] at hlt)
      have e := Lib.hid (show (l.drop k).any badG = (badG (gx l k) || (l.drop (k + 1)).any badG) by rw [drop_gx hlt]; rfl)
      have Hb := Lib.hid (badG_true (x := gx l k))
      have Hg := Lib.hid (badG_false (x := gx l k))
      generalize gx l k = g at *
      obtain ⟨p, q⟩ := g
      have Hbad := Lib.hid (fun (h : p < 0 ∨ 1000 < p ∨ q < -1000000 ∨ 1000000 < q) => Ebad.out (by rw [← Hr.out, e.out, Hb.out.2 h]; rfl))
      by_cases c1 : p < 0
      · have H := Lib.hid (Hbad.out (.inl c1))
        go_wp2
        go_ret
        exact ⟨ret_int H.out.symm, Drawn.refl _⟩
      by_cases c2 : 1000 < p
      · have H := Lib.hid (Hbad.out (.inr (.inl c2)))
        go_wp2
        go_ret
        exact ⟨ret_int H.out.symm, Drawn.refl _⟩
      by_cases c3 : q < -1000000
      · have H := Lib.hid (Hbad.out (.inr (.inr (.inl c3))))
        go_wp2
        go_ret
        exact ⟨ret_int H.out.symm, Drawn.refl _⟩
      by_cases c4 : 1000000 < q
      · have H := Lib.hid (Hbad.out (.inr (.inr (.inr c4))))
        go_wp2
        go_ret
        exact ⟨ret_int H.out.symm, Drawn.refl _⟩
      · have H := Lib.hid (Hg.out.2 (show ¬ (p < 0 ∨ 1000 < p ∨ q < -1000000 ∨ 1000000 < q) by omega))
        go_wp2
        exact ⟨⟨k + 1, by omega, by go_num, by rw [← Hr.out, e.out, H.out]; rfl⟩, by simp [intOf]; omega⟩
    · have hf : l.any badG = false := by rw [← Hr.out, List.drop_eq_nil_of_le (by omega)]; rfl
      have E := Lib.hid (Eok.out hf)
      clear hf
      go_wp2
      go_loopw [4] (fun i wr => ∃ k : Nat, k + 1 ≤ l.length ∧ i = .int .i64 ((k : Int) + 1) ∧ unTo l k = false ∧ ∃ n, wr = w.drewN n) (fun i _ => l.length - (intOf i).toNat)
      case atStart => exact ⟨0, hl1, rfl, rfl, 0, rfl⟩
      case round =>
        obtain ⟨j, hj, rfl, hd, n, rfl⟩ := hrel
        have Hd := Lib.hid hd
        clear hd
        by_cases hjl : j + 1 < l.length
        · have h1 := (Hc.out j (by omega)).1
          have h2 := (Hc.out j (by omega)).2
          have h3 := (Hc.out (j + 1) hjl).1
          have h4 := (Hc.out (j + 1) hjl).2
          obtain rfl := Ha.out (by intro h; simp [h] at hjl)
          have Hst := Lib.hid (stepG_true (l := l) (i := j))
          have Hsf := Lib.hid (stepG_false (l := l) (i := j))
          obtain ⟨p, hp⟩ : ∃ p, (gx l j).1 = p := ⟨_, rfl⟩
          obtain ⟨q, hq⟩ : ∃ p, (gx l j).2 = p := ⟨_, rfl⟩
          obtain ⟨p', hp'⟩ : ∃ p, (gx l (j + 1)).1 = p := ⟨_, rfl⟩
          obtain ⟨q', hq'⟩ : ∃ p, (gx l (j + 1)).2 = p := ⟨_, rfl⟩
          rw [hp] at h1 Hst Hsf
          rw [hq] at h2 Hst Hsf
          rw [hp'] at h3 Hst Hsf
          rw [hq'] at h4 Hst Hsf
          have e1 : IntKind.i64.wrap ((j : Int) + 1 - 1) = (j : Int) := by rw [IntWalk.i64_in _ (by omega)]; omega
          have e2 : ((j : Int) + 1).toNat = j + 1 := by omega
          have b1 : (0 : Int) ≤ (j : Int) + 1 := by omega
          have b2 : (j : Int) + 1 < (l.length : Int) := by omega
          have b3 : (0 : Int) ≤ (j : Int) := by omega
          have b4 : (j : Int) < (l.length : Int) := by omega
          clear hp hq hp' hq'
          by_cases t1 : p ≤ p'
          · have Hdup := Lib.hid (unTo_of (k := l.length - 1) (by omega) (Hst.out.2 (.inl t1)))
            have d1 : decide (p ≤ p') = true := decide_eq_true t1
            go_wp2
            go_quiet (fail)
            go_wp2
            go_ret
            exact ⟨ret_int (by rw [E.out, Hdup.out]; rfl), (Drawn.mk _ _).trans (Drawn.mk _ _)⟩
          have d1 : decide (p ≤ p') = false := decide_eq_false t1
          by_cases t2 : q < q'
          · have Hdup := Lib.hid (unTo_of (k := l.length - 1) (by omega) (Hst.out.2 (.inr t2)))
            have d2 : decide (q < q') = true := decide_eq_true t2
            go_wp2
            go_quiet (fail)
            go_wp2
            go_ret
            exact ⟨ret_int (by rw [E.out, Hdup.out]; rfl), (Drawn.mk _ _).trans (Drawn.mk _ _)⟩
          · have Hs := Lib.hid (Hsf.out.2 (by omega))
            have d2 : decide (q < q') = false := decide_eq_false t2
            go_wp2
            go_quiet (fail)
            go_wp2
            exact ⟨⟨j + 1, by omega, by go_num, by rw [unTo_succ, Hd.out, Hs.out]; rfl, _, rfl⟩, by simp [intOf]; omega⟩
        · have hjj : j = l.length - 1 := by omega
          have Hd2 := Lib.hid (show unTo l (l.length - 1) = false by rw [← hjj]; exact Hd.out)
          clear hjj
          go_wp2
          go_ret
          exact ⟨ret_int (by rw [E.out, Hd2.out]; rfl), Drawn.mk _ _⟩

end Go.Proofs.Ytoneoeckilaglaa
