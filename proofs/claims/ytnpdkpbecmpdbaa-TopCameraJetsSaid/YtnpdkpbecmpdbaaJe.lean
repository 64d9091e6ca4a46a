/-
  jet: Hits, Covers, Rests of planned pulses.
-/
import Derived.Test.YtnpdkpbecmpdbaaJd
set_option linter.unusedVariables false
set_option linter.unusedSimpArgs false
namespace Go.Proofs.Ytnpdkpbecmpdbaa
open Go.RowKit

def HitsRes (n : Nat) (w : World) (e : Ending) (w' : World) : Prop := ∃ a c, e = .returned (.tuple #[.slice a n c, .int .i64 0]) ∧ Mod NoBlock w w'

set_option maxRecDepth 100000 in
set_option maxHeartbeats 3200000 in
theorem hits_ok (D H R : Int) (a : Option Addr) (c n : Nat) (F T : Nat → Int) (ax : Option Addr) (cx : Nat) (xs : List Int) (E : Nat → Prop) (w : World) (h : ValOk D H R) (hx : Ints E w ax xs) (hs : StepsOk xs) (hw : Wins w a n F T) (hp : PlanInv D H R (ix xs) xs.length n F T) :
    Calls Try.prog 11 #[.slice a n c, .agg #[.int .i64 D, .int .i64 H, .int .i64 R], .slice ax xs.length cx] w (HitsRes xs.length w) := by
  have m0 := (Mod.refl NoBlock w).alloc (.cells #[.int .i64 D, .int .i64 H, .int .i64 R] 26)
  have HXw := Lib.hid hx
  have HWw := Lib.hid hw
  have HX := Lib.hid (hx.frame m0)
  have M := Lib.hid m0
  have HV := Lib.hid h
  have HS := Lib.hid hs
  have HP := Lib.hid hp
  have hB := cell_new w #[.int .i64 D, .int .i64 H, .int .i64 R] 26 0 _ rfl
  have l5 : (xs.length : Int) ≤ 512 := by have := hs.len; omega
  have hn5 : n ≤ 512 := by have := hp.le; omega
  clear hx m0 h hs hp hw
  go_enter Try.func11, Try.ntmps11
  go_wp2_with fail
  generalize w.alloc (.cells #[.int .i64 D, .int .i64 H, .int .i64 R] 26) = w0 at HX M hB ⊢
  refine (jetCheck_ok D H R _ _ _ _ _ HV.out HX.out HS.out).mono ?_
  rintro e w1 ⟨rfl, m1⟩
  replace M := Lib.hid (M.out.trans m1)
  have hB : w1.cell? ⟨w.heap.size, 0, none⟩ = some (.int .i64 D) := m1.cell hB id
  have hbl : w.heap.size < w1.heap.size := World.block_lt_of_cell? _ _ hB
  have HB := Lib.hid hB
  clear m1 hB
  go_wp2
  go_loopw [9, 10, 11, 20] (fun o u v i wr => ∃ (k : Nat) (ao : Option Addr) (co : Nat), k ≤ xs.length ∧ i = .int .i64 k ∧ o = .slice ao k co ∧ Mod NoBlock w1 wr ∧ Own wr w1.heap.size 3 ao co (rowV k (fun j => (j : Int)))) (fun _ _ _ i _ => xs.length - (intOf i).toNat)
  case atStart => exact ⟨0, none, 0, by omega, rfl, rfl, Mod.refl _ _, Own.nil _ _ _⟩
  case round =>
    obtain ⟨k, ao, co, hk, rfl, rfl, hm, hown⟩ := hrel
    have Mr := Lib.hid hm
    have HO := Lib.hid hown
    clear hm hown
    obtain ⟨wo, rfl⟩ : ∃ wo : World, wo = wr := ⟨_, rfl⟩
    by_cases hlt : k < xs.length
    · obtain ⟨_, b, off, ha, hcl⟩ := (HXw.out.frame (M.out.trans Mr.out)).open
      have h1 := hcl k hlt
      obtain rfl := ha (by intro e; subst e; simp at hlt)
      obtain ⟨x0, x1⟩ := HS.out.rng k hlt
      have hb := Mr.out.cell HB.out id
      have hcv := HP.out.cover k hlt
      obtain ⟨x, hx⟩ : ∃ x, ix xs k = x := ⟨_, rfl⟩
      rw [hx] at h1 x0 x1 hcv
      clear hcl ha hx
      have hH := HV.out.h0
      have hd0 := HV.out.d0
      have hd1 := HV.out.d1
      have Hex := Lib.hid (show ∃ j, j < n ∧ inW (F j) (T j) (x + D) = true by
        obtain ⟨j, hj, e1, e2⟩ := hcv
        exact ⟨j, hj, inW_true e1 (by omega)⟩)
      clear hcv
      go_wp2_with fail
      refine (open_any a c n F T (x + D) wo hn5 (HWw.out.frame (M.out.trans Mr.out)) Hex.out).mono ?_
      rintro e w2 ⟨rfl, m⟩
      replace Mr := Lib.hid (Mr.out.trans m)
      replace HO := Lib.hid (HO.out.mod m (fun _ _ => id))
      have hs2 := Mr.out.size
      have Lk := Lib.hid (show k = (rowV k (fun j => (j : Int))).length from (rowV_length k _).symm)
      clear m hb h1
      go_wp2_with (at_builtin; refine wpList_append1 (vs := rowV k (fun j => (j : Int))) rfl (.tmp 31) (.tmp 33) _ rfl elemInts k 1 (k + 1) 1 [.int .i64 k] rfl rfl Lk.out (by simp) (by omega) (HO.out.alloc _) (Src.one _ _ _) (by simp [Value.oneCell']) (by simp only [maxLen]; omega) (by omega) (by simp; omega) ?_
                   intro a4 c4 w4 hown4 hgrow4 hat4
                   have HM4 := Lib.hid (show Mod NoBlock w1 w4 from (Mr.out.alloc _).grown hgrow4 fun b hb => .inr (HO.out.lt hb).1)
                   have HO4 := Lib.hid hown4
                   clear hown4 hgrow4 hat4)
      exact ⟨⟨k + 1, a4, c4, by omega, by go_num, rfl, HM4.out, by have := HO4.out; rw [rowV_snoc k (fun j => (j : Int))] at this; exact this⟩, by simp [intOf]; omega⟩
    · have hkx : k = xs.length := by omega
      subst hkx
      go_wp2
      go_ret2
      exact ⟨ao, co, rfl, M.out.trans Mr.out⟩

set_option maxRecDepth 100000 in
set_option maxHeartbeats 3200000 in
theorem covers_ok (D H R : Int) (a : Option Addr) (c n : Nat) (F T : Nat → Int) (ax : Option Addr) (cx : Nat) (xs : List Int) (E : Nat → Prop) (w : World) (h : ValOk D H R) (hx : Ints E w ax xs) (hs : StepsOk xs) (hw : Wins w a n F T) (hp : PlanInv D H R (ix xs) xs.length n F T) :
    Calls Try.prog 12 #[.slice a n c, .agg #[.int .i64 D, .int .i64 H, .int .i64 R], .slice ax xs.length cx] w fun e w' => e = .returned (.bool true) ∧ Mod NoBlock w w' := by
  have m0 := (Mod.refl NoBlock w).alloc (.cells #[.int .i64 D, .int .i64 H, .int .i64 R] 26)
  have HXw := Lib.hid hx
  have HWw := Lib.hid hw
  have M := Lib.hid m0
  have HV := Lib.hid h
  have HS := Lib.hid hs
  have HP := Lib.hid hp
  have HB := Lib.hid (rowIs_new w #[.int .i64 D, .int .i64 H, .int .i64 R] 26)
  have l5 : (xs.length : Int) ≤ 512 := by have := hs.len; omega
  have hn5 : n ≤ 512 := by have := hp.le; omega
  obtain ⟨d0, d1, hh0, hh1, r0, r1⟩ := h
  clear hx m0 hs hp hw
  go_enter Try.func12, Try.ntmps12
  go_wp2_with fail
  generalize w.alloc (.cells #[.int .i64 D, .int .i64 H, .int .i64 R] 26) = w0 at HB M ⊢
  refine (jetVal_ok D H R _ HV.out).mono ?_
  rintro e w1 ⟨rfl, m1⟩
  replace M := Lib.hid (M.out.trans m1)
  replace HB := Lib.hid (HB.out.of_block (m1.block _ HB.out.lt id))
  clear m1
  go_wp2
  go_loopw [8, 9, 15] (fun u v i wr => ∃ k : Nat, k ≤ xs.length ∧ i = .int .i64 k ∧ Mod NoBlock w1 wr) (fun _ _ i _ => xs.length - (intOf i).toNat)
  case atStart => exact ⟨0, by omega, rfl, Mod.refl _ _⟩
  case round =>
    obtain ⟨k, hk, rfl, hm⟩ := hrel
    have Mr := Lib.hid hm
    clear hm
    obtain ⟨wo, rfl⟩ : ∃ wo : World, wo = wr := ⟨_, rfl⟩
    by_cases hlt : k < xs.length
    · obtain ⟨_, b, off, ha, hcl⟩ := (HXw.out.frame (M.out.trans Mr.out)).open
      have h1 := hcl k hlt
      obtain rfl := ha (by intro e; subst e; simp at hlt)
      obtain ⟨x0, x1⟩ := HS.out.rng k hlt
      have c1 : wo.cell? ⟨w.heap.size, 1, none⟩ = some (.int .i64 H) := Mr.out.cell (HB.out.cell (by simp)) id
      have hcv := HP.out.cover k hlt
      obtain ⟨x, hx⟩ : ∃ x, ix xs k = x := ⟨_, rfl⟩
      rw [hx] at h1 x0 x1 hcv
      have HCV := Lib.hid hcv
      clear hcl ha hx hcv
      have g1 : ¬ x < 0 := by omega
      have g2 : ¬ 1048576 < x := by omega
      go_wp2
      clear c1
      go_loopw [9, 27] (fun v i wr => ∃ q : Nat, (q : Int) ≤ H ∧ i = .int .i64 q ∧ Mod NoBlock w1 wr) (fun _ i _ => (H - intOf i).toNat)
      case atStart => exact ⟨0, by omega, rfl, Mr.out⟩
      case round =>
        clear Mr
        obtain ⟨q, hq, rfl, hm⟩ := hrel
        have Mr := Lib.hid hm
        clear hm h1
        clear wo
        obtain ⟨wo, rfl⟩ : ∃ wo : World, wo = wr := ⟨_, rfl⟩
        by_cases hltq : (q : Int) < H
        · have c0 : wo.cell? ⟨w.heap.size, 0, none⟩ = some (.int .i64 D) := Mr.out.cell (HB.out.cell (i := 0) (by simp)) id
          have Hex := Lib.hid (show ∃ j, j < n ∧ inW (F j) (T j) (x + D + q) = true by
            obtain ⟨j, hj, e1, e2⟩ := HCV.out
            exact ⟨j, hj, inW_true (by omega) (by omega)⟩)
          go_wp2_with fail
          refine (open_any a c n F T (x + D + q) wo hn5 (HWw.out.frame (M.out.trans Mr.out)) Hex.out).mono ?_
          rintro e w2 ⟨rfl, m⟩
          replace Mr := Lib.hid (Mr.out.trans m)
          clear m c0
          go_wp2
          exact ⟨⟨q + 1, by omega, by go_num, Mr.out⟩, by simp [intOf]; omega⟩
        · go_wp2
          exact ⟨⟨k + 1, by omega, by go_num, Mr.out⟩, by simp [intOf]; omega⟩
    · go_wp2
      go_ret
      exact ⟨rfl, M.out.trans Mr.out⟩

set_option maxRecDepth 100000 in
set_option maxHeartbeats 3200000 in
theorem rests_ok (D H R : Int) (a : Option Addr) (c n K : Nat) (F T : Nat → Int) (X : Nat → Int) (w : World) (h : ValOk D H R) (hw : Wins w a n F T) (hp : PlanInv D H R X K n F T) (hK : K ≤ 512) :
    Calls Try.prog 13 #[.slice a n c, .agg #[.int .i64 D, .int .i64 H, .int .i64 R]] w fun e w' => e = .returned (.bool true) ∧ Mod NoBlock w w' := by
  have m0 := (Mod.refl NoBlock w).alloc (.cells #[.int .i64 D, .int .i64 H, .int .i64 R] 26)
  have HWw := Lib.hid hw
  have M := Lib.hid m0
  have HV := Lib.hid h
  have HP := Lib.hid hp
  have HB := Lib.hid (rowIs_new w #[.int .i64 D, .int .i64 H, .int .i64 R] 26)
  have n5 : (n : Int) ≤ 512 := by have := hp.le; omega
  obtain ⟨d0, d1, hh0, hh1, r0, r1⟩ := h
  clear m0 hp hw
  go_enter Try.func13, Try.ntmps13
  go_wp2_with fail
  generalize w.alloc (.cells #[.int .i64 D, .int .i64 H, .int .i64 R] 26) = w0 at HB M ⊢
  refine (jetVal_ok D H R _ HV.out).mono ?_
  rintro e w1 ⟨rfl, m1⟩
  replace M := Lib.hid (M.out.trans m1)
  replace HB := Lib.hid (HB.out.of_block (m1.block _ HB.out.lt id))
  have hbl := HB.out.lt
  clear m1
  go_wp2
  go_loopw [5, 6, 12] (fun u v i wr => ∃ k : Nat, k ≤ n ∧ i = .int .i64 k ∧ Mod NoBlock w1 wr) (fun _ _ i _ => n - (intOf i).toNat)
  case atStart => exact ⟨0, by omega, rfl, Mod.refl _ _⟩
  case round =>
    obtain ⟨k, hk, rfl, hm⟩ := hrel
    have Mr := Lib.hid hm
    clear hm
    obtain ⟨wo, rfl⟩ : ∃ wo : World, wo = wr := ⟨_, rfl⟩
    by_cases hlt : k < n
    · obtain ⟨b, off, rfl, hcl⟩ := (HWw.out.frame (M.out.trans Mr.out)) (by omega)
      obtain ⟨h1, h2⟩ := hcl k hlt
      obtain ⟨u0, u1, u2⟩ := HP.out.win k hlt
      have hb : b < wo.heap.size := World.block_lt_of_cell? _ _ h1
      have c2 : wo.cell? ⟨w.heap.size, 2, none⟩ = some (.int .i64 R) := Mr.out.cell (HB.out.cell (i := 2) (by simp)) id
      have hbo : w.heap.size < wo.heap.size := Nat.lt_of_lt_of_le hbl Mr.out.size
      have kn : (k : Int) < (n : Int) := by omega
      have k0 : (0 : Int) ≤ (k : Int) := by omega
      have Hnext := Lib.hid (fun o : Obj => Mr.out.alloc o)
      rcases Nat.eq_zero_or_pos k with hk0 | hk0
      · subst hk0
        rw [Nat.zero_mul, Nat.add_zero] at h1 h2
        clear hcl
        generalize F 0 = f at h1 u0 u1
        generalize T 0 = t at h2 u1 u2
        have g1 : ¬ t ≤ f := by omega
        go_wp2_with (go_quiet (fail))
        exact ⟨⟨1, by omega, by go_num, (Hnext.out _).drewN _⟩, by simp [intOf]; omega⟩
      · obtain ⟨j, rfl⟩ : ∃ j, k = j + 1 := ⟨k - 1, by omega⟩
        obtain ⟨h3, h4⟩ := hcl j (by omega)
        obtain ⟨v0, v1, v2⟩ := HP.out.win j (by omega)
        obtain ⟨s1, s2⟩ := HP.out.sep j hlt
        clear hcl
        generalize F (j + 1) = f at h1 u0 u1 s1 s2
        generalize T (j + 1) = t at h2 u1 u2
        generalize T j = p at h4 v1 v2 s1 s2
        generalize F j = z at h3 v0 v1
        have g1 : ¬ t ≤ f := by omega
        have g2 : ¬ f < p := by omega
        have g3 : ¬ f - p < R := by omega
        have e1 : IntKind.u64.wrap f = f := IntWalk.u64_in _ (by omega)
        have e2 : IntKind.u64.wrap p = p := IntWalk.u64_in _ (by omega)
        have e3 : IntKind.u64.wrap R = R := IntWalk.u64_in _ (by omega)
        have e4 : IntKind.u64.wrap (f - p) = f - p := IntWalk.u64_in _ (by omega)
        go_wp2_with (go_quiet (fail))
        exact ⟨⟨j + 2, by omega, by go_num, (Hnext.out _).drewN _⟩, by simp [intOf]; omega⟩
    · go_wp2
      go_ret
      exact ⟨rfl, M.out.trans Mr.out⟩

end Go.Proofs.Ytnpdkpbecmpdbaa
