/-
  jet.Plan.
-/
import Derived.Test.YtnpdkpbecmpdbaaJb
import Derived.Test.YtnpdkpbecmpdbaaCo
import Derived.WalkMore
set_option linter.unusedVariables false
set_option linter.unusedSimpArgs false
namespace Go.Proofs.Ytnpdkpbecmpdbaa
open Go.RowKit

theorem infoWin : (Try.prog.info? 69).map (fun i => (i.zero, i.size, i.bytes)) = some (some (.agg #[.int .i64 0, .int .i64 0]), 2, 16) := by kernel_rfl
theorem elemWin : Elem2 Try.prog 39 69 16 := Elem2.mk Try.underlying39 infoWin rfl

section
variable {w : World} {B e g c n : Nat} {a : Option Addr} {vs : List Value}
theorem Own2.addr (h : Own2 w B e a c n vs) (hn : 0 < n) : ∃ g, a = some ⟨g, 0, none⟩ ∧ B ≤ g ∧ g < w.heap.size := by
  rcases h.2 with ⟨_, h0⟩ | ⟨g, cap, cur, h1, h2, h3, _⟩
  · omega
  · have ha : a = some ⟨g, 0, Option.none⟩ := by injection h1
    exact ⟨g, ha, h2, (Array.getElem?_eq_some_iff.1 h3).1⟩
theorem Own2.cellAt (h : Own2 w B e (some ⟨g, 0, none⟩) c n vs) {k : Nat} {u : Value} (hu : vs[k]? = some u) : w.cell? ⟨g, k, none⟩ = some u ∧ w.frozen? ⟨g, k, none⟩ = false := by
  have h' := World.ownsRow.cells h (g := g) (by rw [ownBlock_slice]; rfl) _ _ hu
  have ap : (⟨g, 0, none⟩ : Addr).add k = ⟨g, 0 + k, none⟩ := by unfold Addr.add; split <;> simp_all
  rw [ap, Nat.zero_add] at h'
  exact ⟨h', World.ownsRow.frozenAt h k⟩
theorem Own2.wins {F T : Nat → Int} (h : Own2 w B e a c n (winV n F T)) : Wins w a n F T := fun hn => by
  obtain ⟨g, rfl, _, _⟩ := h.addr (by omega)
  refine ⟨g, 0, rfl, fun j hj => ?_⟩
  obtain ⟨h1, h2⟩ := winV_get (F := F) (T := T) hj
  rw [Nat.zero_add]
  exact ⟨(h.cellAt h1).1, (h.cellAt h2).1⟩
end

def PlanRes (D H R : Int) (xs : List Int) (w : World) (e : Ending) (w' : World) : Prop :=
  ∃ a c n F T, e = .returned (.tuple #[.slice a n c, .int .i64 0]) ∧ Mod NoBlock w w' ∧ Wins w' a n F T ∧ PlanInv D H R (ix xs) xs.length n F T

set_option maxRecDepth 100000 in
set_option maxHeartbeats 3200000 in
theorem plan_ok (D H R : Int) (a : Option Addr) (c : Nat) (xs : List Int) (E : Nat → Prop) (w : World) (h : ValOk D H R) (hx : Ints E w a xs) (hs : StepsOk xs) :
    Calls Try.prog 10 #[.agg #[.int .i64 D, .int .i64 H, .int .i64 R], .slice a xs.length c] w (PlanRes D H R xs w) := by
  have m0 := (Mod.refl NoBlock w).alloc (.cells #[.int .i64 D, .int .i64 H, .int .i64 R] 26)
  have HXw := Lib.hid hx
  have HX := Lib.hid (hx.frame m0)
  have M := Lib.hid m0
  have HV := Lib.hid h
  have HS := Lib.hid hs
  have HB := Lib.hid (rowIs_new w #[.int .i64 D, .int .i64 H, .int .i64 R] 26)
  have l5 : (xs.length : Int) ≤ 512 := by have := hs.len; omega
  clear hx m0 h hs
  go_enter Try.func10, Try.ntmps10
  go_wp2
  go_step3
  go_wp2_with fail
  generalize w.alloc (.cells #[.int .i64 D, .int .i64 H, .int .i64 R] 26) = w0 at HX M HB ⊢
  refine (jetCheck_ok D H R _ _ _ _ _ HV.out HX.out HS.out).mono ?_
  rintro e w1 ⟨rfl, m1⟩
  replace M := Lib.hid (M.out.trans m1)
  replace HX := Lib.hid (HX.out.frame m1)
  replace HB := Lib.hid (HB.out.of_block (m1.block _ HB.out.lt id))
  clear m1
  go_wp2
  go_step3
  go_wp2
  go_loopw [7, 9, 10, 11, 20] (fun o u v x i wr => ∃ (k n : Nat) (ao : Option Addr) (co : Nat) (F T : Nat → Int), k ≤ xs.length ∧ i = .int .i64 k ∧ o = .slice ao n co ∧ Mod NoBlock w wr ∧
      wr.rowIs w.heap.size 26 3 (fun i => (#[.int .i64 D, .int .i64 H, .int .i64 R] : Array Value).getD i undef) ∧ Own2 wr (w.heap.size + 1) 69 ao co n (winV n F T) ∧ PlanInv D H R (ix xs) k n F T) (fun _ _ _ _ i _ => xs.length - (intOf i).toNat)
  case atStart => exact ⟨0, 0, none, 0, fun _ => 0, fun _ => 0, by omega, rfl, rfl, M.out, HB.out, Own2.nil _ _ _, PlanInv.zero _ _ _ _ _ _⟩
  case round =>
    clear M HB
    obtain ⟨k, n, ao, co, F, T, hk, rfl, rfl, hm, hbx, hown, hinv⟩ := hrel
    obtain ⟨wo, rfl⟩ : ∃ wo : World, wo = wr := ⟨_, rfl⟩
    have M := Lib.hid hm
    have HB := Lib.hid hbx
    have HO := Lib.hid hown
    have HI := Lib.hid hinv
    clear hm hbx hown hinv
    by_cases hlt : k < xs.length
    · obtain ⟨_, b, off, ha, hcl⟩ := (HXw.out.frame M.out).open
      have h1 := hcl k hlt
      obtain rfl := ha (by intro e; subst e; simp at hlt)
      obtain ⟨x0, x1⟩ := HS.out.rng k hlt
      have hord : ∀ i, k = i + 1 → ix xs i ≤ ix xs k := fun i hi => by subst hi; exact HS.out.ord i hlt
      have Hord := Lib.hid hord
      have c0 : wo.cell? ⟨w.heap.size, 0, none⟩ = some (.int .i64 D) := HB.out.cell (by omega)
      have c1 : wo.cell? ⟨w.heap.size, 1, none⟩ = some (.int .i64 H) := HB.out.cell (by omega)
      have c2 : wo.cell? ⟨w.heap.size, 2, none⟩ = some (.int .i64 R) := HB.out.cell (by omega)
      have hnk := HI.out.le
      obtain ⟨x, hx⟩ : ∃ x, ix xs k = x := ⟨_, rfl⟩
      rw [hx] at h1 x0 x1
      have Hx := Lib.hid hx
      clear hcl ha hord hx
      go_wp2_with fail
      refine (need_any D H R x _ HV.out x0 x1).mono ?_
      rintro e w2 ⟨rfl, m2⟩
      obtain ⟨d0, d1, h0, hh1, r0, r1⟩ := HV.out
      replace M := Lib.hid (M.out.trans m2)
      replace HB := Lib.hid (HB.out.of_block (m2.block _ HB.out.lt id))
      replace HO := Lib.hid (HO.out.mod m2 (fun _ _ => id))
      clear m2 c0 c1 c2 h1
      go_wp2
      have hr3 := rowIs_new w2 #[.int .i64 (x + D), .int .i64 (x + D + H)] 69
      have m3 := (Mod.refl NoBlock w2).alloc (.cells #[.int .i64 (x + D), .int .i64 (x + D + H)] 69)
      replace M := Lib.hid (M.out.trans m3)
      replace HB := Lib.hid (HB.out.of_block (m3.block _ HB.out.lt id))
      replace HO := Lib.hid (HO.out.mod m3 (fun _ _ => id))
      clear m3
      generalize w2.alloc (.cells #[.int .i64 (x + D), .int .i64 (x + D + H)] 69) = w3 at hr3 M HB HO ⊢
      obtain ⟨q, hq⟩ : ∃ q, w2.heap.size = q := ⟨_, rfl⟩
      rw [hq] at hr3 ⊢
      clear hq
      have t0 : w3.cell? ⟨q, 0, none⟩ = some (.int .i64 (x + D)) := hr3.cell (i := 0) (by simp)
      have t1 : w3.cell? ⟨q, 1, none⟩ = some (.int .i64 (x + D + H)) := hr3.cell (i := 1) (by simp)
      have c2 : w3.cell? ⟨w.heap.size, 2, none⟩ = some (.int .i64 R) := HB.out.cell (by omega)
      have hqs := hr3.lt
      have hbs := HB.out.lt
      clear hr3
      rcases Nat.eq_zero_or_pos n with hn | hn
      · subst hn
        have HI2 := Lib.hid (HI.out.add d0 d1 h0 hh1 (by rw [Hx.out]; exact x0) (by rw [Hx.out]; exact x1) (fun m hm => absurd hm (by omega)))
        rw [Hx.out] at HI2
        go_wp2_with (first
          | (at_builtin; refine wpList_append2 (n := 0) (vs := winV 0 F T) rfl (.tmp 63) (.tmp 65) _ rfl elemWin 1 1 (.int .i64 (x + D)) (.int .i64 (x + D + H)) rfl rfl rfl (HO.out.alloc _) (Src2.one _ _ _ _) ⟨rfl, rfl⟩ (by simp only [maxLen]; omega) (by omega) (by simp; omega) ?_
             intro a4 c4 w4 hown4 hgrow4 hat4
             have hbo := HO.out.away (b := w.heap.size) (Nat.lt_succ_self _)
             have HB4 := Lib.hid (HB.out.of_block ((hgrow4.block _ (by simp; omega) hbo).trans (Below.heap_alloc w3 _ _ (by omega))))
             have HM4 := Lib.hid (show Mod NoBlock w w4 from ((M.out.drewN _).alloc _).grown hgrow4 fun b hb => .inr (Nat.le_of_succ_le (HO.out.lt hb).1))
             have HO4 := Lib.hid hown4
             clear hown4 hgrow4 hat4)
          | (go_quiet (fail)))
        exact ⟨⟨k + 1, 1, a4, c4, _, _, by omega, by go_num, rfl, HM4.out, HB4.out, by have := HO4.out; rw [winV_add] at this; exact this, HI2.out⟩, by simp [intOf]; omega⟩
      · obtain ⟨m, rfl⟩ : ∃ m, n = m + 1 := ⟨n - 1, by omega⟩
        obtain ⟨g, rfl, hg1, hg2⟩ := HO.out.addr (by omega)
        obtain ⟨u0, u1, u2⟩ := HI.out.win m (by omega)
        have hv := (winV_get (n := m + 1) (F := F) (T := T) (j := m) (by omega)).2
        have hcT := (HO.out.cellAt hv).1
        have hzT := (HO.out.cellAt hv).2
        have Hadd := Lib.hid (fun hc => HI.out.add d0 d1 h0 hh1 (by rw [Hx.out]; exact x0) (by rw [Hx.out]; exact x1) hc)
        have Hext := Lib.hid (HI.out.ext d0 d1 h0 hh1 (by rw [Hx.out]; exact x0) (by rw [Hx.out]; exact x1) Hord.out)
        rw [Hx.out] at Hext Hadd
        have Hset := Lib.hid (show ∀ t : Int, Own2 (w3.setCell ⟨g, m * 2 + 1, none⟩ (.int .i64 t)) (w.heap.size + 1) 69 (some ⟨g, 0, none⟩) co (m + 1) (winV (m + 1) F (fun j => if j = m then t else T j)) from fun t => by
          rw [← winV_set]; exact (World.ownsRow.stored HO.out (m * 2 + 1) (.int .i64 t)).1)
        have m0 : (0 : Int) ≤ (m : Int) := by omega
        have mk : (m : Int) + 1 ≤ 512 := by omega
        clear hv
        obtain ⟨y, hy⟩ : ∃ y, T m = y := ⟨_, rfl⟩
        rw [hy] at hcT u1 u2
        have Hy := Lib.hid hy
        clear hy
        have hne : w.heap.size ≠ g := by omega
        by_cases e1 : x + D < y ∨ (¬ x + D < y ∧ x + D - y < R)
        · rcases e1 with e1 | ⟨e1, e2⟩
          all_goals
            go_wp2_with (go_quiet (fail))
            exact ⟨⟨k + 1, m + 1, some ⟨g, 0, none⟩, co, _, _, by omega, by go_num, rfl, (M.out.drewN _).setCell (p := ⟨g, m * 2 + 1, none⟩) (.inr (by show w.heap.size ≤ g; omega)) _, World.rowIs.setOther (w := w3.drewN _) HB.out hne _, Own2.mod (D := NoBlock) (Hset.out (x + D + H)) ⟨rfl, rfl, rfl, Nat.le_refl _, fun _ _ _ => rfl⟩ (fun _ _ => id), Hext.out⟩, by simp [intOf]; omega⟩
        · have g1 : ¬ x + D < y := by omega
          have g2 : ¬ x + D - y < R := by omega
          have HI2 := Lib.hid (Hadd.out (fun m' hm' => by obtain rfl : m' = m := by omega
                                                          rw [Hy.out]; omega))
          go_wp2_with (first
            | (at_builtin; refine wpList_append2 (n := m + 1) (vs := winV (m + 1) F T) rfl (.tmp 63) (.tmp 65) _ rfl elemWin (m + 1 + 1) 1 (.int .i64 (x + D)) (.int .i64 (x + D + H)) rfl rfl rfl (HO.out.alloc _) (Src2.one _ _ _ _) ⟨rfl, rfl⟩ (by simp only [maxLen]; omega) (by omega) (by simp; omega) ?_
               intro a4 c4 w4 hown4 hgrow4 hat4
               have hbo := HO.out.away (b := w.heap.size) (Nat.lt_succ_self _)
               have HB4 := Lib.hid (HB.out.of_block ((hgrow4.block _ (by simp; omega) hbo).trans (Below.heap_alloc w3 _ _ (by omega))))
               have HM4 := Lib.hid (show Mod NoBlock w w4 from ((M.out.drewN _).alloc _).grown hgrow4 fun b hb => .inr (Nat.le_of_succ_le (HO.out.lt hb).1))
               have HO4 := Lib.hid hown4
               clear hown4 hgrow4 hat4)
            | (go_quiet (fail)))
          exact ⟨⟨k + 1, m + 1 + 1, a4, c4, _, _, by omega, by go_num, rfl, HM4.out, HB4.out, by have := HO4.out; rw [winV_add] at this; exact this, HI2.out⟩, by simp [intOf]; omega⟩
    · have hkx : k = xs.length := by omega
      subst hkx
      go_wp2
      try rw [Exit.noGoto_ret]
      go_ret2
      exact ⟨ao, co, n, F, T, rfl, M.out, HO.out.wins, HI.out⟩

end Go.Proofs.Ytnpdkpbecmpdbaa
