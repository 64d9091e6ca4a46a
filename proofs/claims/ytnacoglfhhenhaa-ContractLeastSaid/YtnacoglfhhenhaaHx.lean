/-
  match: the reference's least.
-/
import Derived.Test.YtnacoglfhhenhaaHu
import Derived.Test.YtnacoglfhhenhaaHw
set_option linter.unusedVariables false
set_option linter.unusedSimpArgs false
namespace Go.Proofs.Ytnacoglfhhenhaa
open Go.RowKit

theorem n5_0 (w : World) (o2 o3 o4 o5 : Obj) (c : Array Value) (t : TypeId) {n : Nat} {f : Nat → Value} (hn : c.size = n) (hf : ∀ i, c.getD i undef = f i) : (((((w.alloc (.cells c t)).alloc o2).alloc o3).alloc o4).alloc o5).rowIs (w.heap.size) t n f := by
  subst hn
  obtain rfl : (fun i => c.getD i undef) = f := funext hf
  have h := rowIs_new w c t
  have e : w.heap.size = w.heap.size := by simp
  rw [e] at h
  exact ((((h.alloc _).alloc _).alloc _).alloc _)
theorem m5_0 (w : World) (o2 o3 o4 o5 : Obj) (x : Nat) : (((((w.alloc (.cells (madeCells #[.int .i64 0] x) 3)).alloc o2).alloc o3).alloc o4).alloc o5).rowIs (w.heap.size) 3 x (fun _ => .int .i64 0) := by
  have h := World.rowIs_made w (.int .i64 0) x 3
  have e : w.heap.size = w.heap.size := by simp
  rw [e] at h
  exact ((((h.alloc _).alloc _).alloc _).alloc _)
theorem n5_1 (w : World) (o1 o3 o4 o5 : Obj) (c : Array Value) (t : TypeId) {n : Nat} {f : Nat → Value} (hn : c.size = n) (hf : ∀ i, c.getD i undef = f i) : (((((w.alloc o1).alloc (.cells c t)).alloc o3).alloc o4).alloc o5).rowIs (w.heap.size + 1) t n f := by
  subst hn
  obtain rfl : (fun i => c.getD i undef) = f := funext hf
  have h := rowIs_new (w.alloc o1) c t
  have e : (w.alloc o1).heap.size = w.heap.size + 1 := by simp
  rw [e] at h
  exact (((h.alloc _).alloc _).alloc _)
theorem m5_1 (w : World) (o1 o3 o4 o5 : Obj) (x : Nat) : (((((w.alloc o1).alloc (.cells (madeCells #[.int .i64 0] x) 3)).alloc o3).alloc o4).alloc o5).rowIs (w.heap.size + 1) 3 x (fun _ => .int .i64 0) := by
  have h := World.rowIs_made (w.alloc o1) (.int .i64 0) x 3
  have e : (w.alloc o1).heap.size = w.heap.size + 1 := by simp
  rw [e] at h
  exact (((h.alloc _).alloc _).alloc _)
theorem n5_2 (w : World) (o1 o2 o4 o5 : Obj) (c : Array Value) (t : TypeId) {n : Nat} {f : Nat → Value} (hn : c.size = n) (hf : ∀ i, c.getD i undef = f i) : (((((w.alloc o1).alloc o2).alloc (.cells c t)).alloc o4).alloc o5).rowIs (w.heap.size + 1 + 1) t n f := by
  subst hn
  obtain rfl : (fun i => c.getD i undef) = f := funext hf
  have h := rowIs_new ((w.alloc o1).alloc o2) c t
  have e : ((w.alloc o1).alloc o2).heap.size = w.heap.size + 1 + 1 := by simp
  rw [e] at h
  exact ((h.alloc _).alloc _)
theorem m5_2 (w : World) (o1 o2 o4 o5 : Obj) (x : Nat) : (((((w.alloc o1).alloc o2).alloc (.cells (madeCells #[.int .i64 0] x) 3)).alloc o4).alloc o5).rowIs (w.heap.size + 1 + 1) 3 x (fun _ => .int .i64 0) := by
  have h := World.rowIs_made ((w.alloc o1).alloc o2) (.int .i64 0) x 3
  have e : ((w.alloc o1).alloc o2).heap.size = w.heap.size + 1 + 1 := by simp
  rw [e] at h
  exact ((h.alloc _).alloc _)
theorem n5_3 (w : World) (o1 o2 o3 o5 : Obj) (c : Array Value) (t : TypeId) {n : Nat} {f : Nat → Value} (hn : c.size = n) (hf : ∀ i, c.getD i undef = f i) : (((((w.alloc o1).alloc o2).alloc o3).alloc (.cells c t)).alloc o5).rowIs (w.heap.size + 1 + 1 + 1) t n f := by
  subst hn
  obtain rfl : (fun i => c.getD i undef) = f := funext hf
  have h := rowIs_new (((w.alloc o1).alloc o2).alloc o3) c t
  have e : (((w.alloc o1).alloc o2).alloc o3).heap.size = w.heap.size + 1 + 1 + 1 := by simp
  rw [e] at h
  exact (h.alloc _)
theorem m5_3 (w : World) (o1 o2 o3 o5 : Obj) (x : Nat) : (((((w.alloc o1).alloc o2).alloc o3).alloc (.cells (madeCells #[.int .i64 0] x) 3)).alloc o5).rowIs (w.heap.size + 1 + 1 + 1) 3 x (fun _ => .int .i64 0) := by
  have h := World.rowIs_made (((w.alloc o1).alloc o2).alloc o3) (.int .i64 0) x 3
  have e : (((w.alloc o1).alloc o2).alloc o3).heap.size = w.heap.size + 1 + 1 + 1 := by simp
  rw [e] at h
  exact (h.alloc _)
theorem n5_4 (w : World) (o1 o2 o3 o4 : Obj) (c : Array Value) (t : TypeId) {n : Nat} {f : Nat → Value} (hn : c.size = n) (hf : ∀ i, c.getD i undef = f i) : (((((w.alloc o1).alloc o2).alloc o3).alloc o4).alloc (.cells c t)).rowIs (w.heap.size + 1 + 1 + 1 + 1) t n f := by
  subst hn
  obtain rfl : (fun i => c.getD i undef) = f := funext hf
  have h := rowIs_new ((((w.alloc o1).alloc o2).alloc o3).alloc o4) c t
  have e : ((((w.alloc o1).alloc o2).alloc o3).alloc o4).heap.size = w.heap.size + 1 + 1 + 1 + 1 := by simp
  rw [e] at h
  exact h
theorem m5_4 (w : World) (o1 o2 o3 o4 : Obj) (x : Nat) : (((((w.alloc o1).alloc o2).alloc o3).alloc o4).alloc (.cells (madeCells #[.int .i64 0] x) 3)).rowIs (w.heap.size + 1 + 1 + 1 + 1) 3 x (fun _ => .int .i64 0) := by
  have h := World.rowIs_made ((((w.alloc o1).alloc o2).alloc o3).alloc o4) (.int .i64 0) x 3
  have e : ((((w.alloc o1).alloc o2).alloc o3).alloc o4).heap.size = w.heap.size + 1 + 1 + 1 + 1 := by simp
  rw [e] at h
  exact h
theorem ss_made5 {w W : World} {t : TypeId} {bu bv br bf g n n1 m ca : Nat} {a : Option Addr} (hm : Mod NoBlock w W) (hb : W.rowIs g t 5 (fun i => (five bu bv br bf a ca n n1 m).getD i undef))
    (hu : W.rowIs bu 3 n1 (fun _ => .int .i64 0)) (hv : W.rowIs bv 3 m (fun _ => .int .i64 0)) (hr : W.rowIs br 3 m (fun _ => .int .i64 0)) (hf : W.rowIs bf 3 m (fun _ => .int .i64 0))
    (hne : bu ≠ bv ∧ bu ≠ br ∧ bu ≠ bf ∧ bv ≠ br ∧ bv ≠ bf ∧ br ≠ bf) (hg : g ≠ bu ∧ g ≠ bv ∧ g ≠ br ∧ g ≠ bf) (hS : w.heap.size ≤ bu ∧ w.heap.size ≤ bv ∧ w.heap.size ≤ br ∧ w.heap.size ≤ bf ∧ w.heap.size ≤ g) :
    SS w W.drew t bu bv br bf g a ca n n1 m z0 z0 n0 n0 := ⟨hm.drew, hb, ⟨hu, hv, hr, hf, hne⟩, hg, hS⟩

set_option maxRecDepth 100000 in
set_option maxHeartbeats 40000000 in
theorem least_any {w : World} {ba oa ca n K : Nat} {T : Nat → Nat → Int} {ra ro rc : Nat → Nat} (hT : Tab (fun b => b < w.heap.size) w ba oa n K T ra ro rc)
    (hc : TabOk T n K) (hnK : n ≤ K) (hK : K ≤ 100) (hn0 : 0 < n) :
    Calls Try.prog 52 #[.slice (some ⟨ba, oa, none⟩) n ca] w fun e w' => ∃ t a1 c1 a2 c2, e = .returned (.tuple #[.int .i64 t, .slice a1 n c1, .slice a2 K c2]) ∧ K ≤ c2 ∧ LeastIs T n K t ∧ Mod NoBlock w w' := by
  obtain ⟨n1, hn1⟩ : ∃ n1, n1 = n + 1 := ⟨_, rfl⟩
  obtain ⟨m, hm⟩ : ∃ m, m = K + 1 := ⟨_, rfl⟩
  have m1 : K < m := by omega
  have m2 : m ≤ K + 1 := by omega
  have m3 : n < n1 := by omega
  have m4 : n1 ≤ n + 1 := by omega
  have hm9 : (K : Int) + 1 = (m : Int) := by omega
  have hn9 : (n : Int) + 1 = (n1 : Int) := by omega
  clear hm hn1
  have HT := Lib.hid hT
  have HC := Lib.hid hc
  have H0 := Lib.hid (HD.zero hc.costOk)
  have hmk := run_make_row' (P := Try.prog) 30 3 (.int .i64 0) 8 Try.underlying30 infoIntM rfl .i64 .i64 m (by omega) (by omega)
  have hmk1 := run_make_row' (P := Try.prog) 30 3 (.int .i64 0) 8 Try.underlying30 infoIntM rfl .i64 .i64 n1 (by omega) (by omega)
  have d0 := hT.rows 0 hn0
  rw [Nat.add_zero] at d0
  have hne : (0 : Int) < (n : Int) := by omega
  clear hT hc
  go_enter Try.func52, Try.ntmps52
  go_upto_region 4 with fail
  clear d0
  go_cut [6] (fun s6 wx => ∃ bu bv br bf g, s6 = .pointer (some ⟨g, 0, none⟩) ∧ Hid (SS w wx 91 bu bv br bf g (some ⟨ba, oa, none⟩) ca n n1 m z0 z0 n0 n0))
  case first =>
    clear HT HC H0 hne
    go_region
    all_goals (go_wp2_with fail; go_meet)
    all_goals refine ⟨_, _, _, _, _, rfl, Lib.hid (ss_made5 ((((((Mod.refl _ _).alloc _).alloc _).alloc _).alloc _).alloc _) (by
      first | (with_reducible refine n5_4 _ _ _ _ _ _ _ ?_ ?_) | (with_reducible refine n5_3 _ _ _ _ _ _ _ ?_ ?_) | (with_reducible refine n5_2 _ _ _ _ _ _ _ ?_ ?_) | (with_reducible refine n5_1 _ _ _ _ _ _ _ ?_ ?_) | (with_reducible refine n5_0 _ _ _ _ _ _ _ ?_ ?_)
      · rfl
      · exact fun _ => rfl) ?_ ?_ ?_ ?_ ?_ ?_ ?_)⟩
    all_goals first | (with_reducible exact m5_0 _ _ _ _ _ _) | (with_reducible exact m5_1 _ _ _ _ _ _) | (with_reducible exact m5_2 _ _ _ _ _ _) | (with_reducible exact m5_3 _ _ _ _ _ _) | (with_reducible exact m5_4 _ _ _ _ _ _) | omega
  case rest =>
    obtain ⟨bu, bv, br, bf, g, rfl, Hs⟩ := hcut
    clear hmk hmk1 hm9 hn9
    go_wp2_with fail
    go_loopg [7] n (fun k i wr => ∃ (q : Nat) (u v : Nat → Int) (row fr : Nat → Nat), q + k = n ∧ i = .int .i64 ((q : Int) + 1) ∧ HD (fun r j => T (r - 1) (j - 1)) n K q row u v ∧ SS w wr 91 bu bv br bf g (some ⟨ba, oa, none⟩) ca n n1 m u v row fr)
    case atStart => exact ⟨0, z0, z0, n0, n0, by omega, rfl, H0.out, Hs.out⟩
    case round =>
      clear Hs
      obtain ⟨q, u, v, row, fr, hqk, rfl, hd, hss⟩ := hrel
      have H := Lib.hid hss
      have HH := Lib.hid hd
      clear hd hss
      obtain ⟨wo, rfl⟩ : ∃ wo : World, wo = wr := ⟨_, rfl⟩
      by_cases hlt : q < n
      · have q1 : (q : Int) + 1 ≤ (n : Int) := by omega
        have q2 : (q : Int) < (n : Int) := by omega
        have Hqk := Lib.hid hqk
        clear hqk
        have b0 := H.out.b0
        have b1 := H.out.b1
        have b2 := H.out.b2
        have b3 := H.out.b3
        have b4 := H.out.b4
        have Hgrow := Lib.hid (grow_any (ca := ca) (HT.out.frame H.out.mod (fun _ _ => id)) H.out.not4 (fun _ _ => rfl) HC.out.costOk HH.out hlt hnK hK m1 m2 m3 m4 H.out.r4)
        go_wp2_with (go_at_call 63; refine Hgrow.out.mono ?_; rintro e w1 ⟨rfl, u', v', row1, fr', hd1, hr1, hm1⟩)
        go_roundg (n - q - 1)
        case measure => have := Hqk.out; omega
        case rel => exact ⟨q + 1, u', v', row1, fr', by have := Hqk.out; omega, by go_num, hd1, H.out.own hm1 hr1⟩
      · have q1 : (n : Int) < (q : Int) + 1 := by omega
        obtain rfl : q = n := by omega
        have HL := Lib.hid HH.out.least
        have Hle := Lib.hid HH.out.le
        have HB := Lib.hid (fun k hk => colSum HC.out HH.out.le k hk)
        clear HH
        have b3 := H.out.b3
        go_wp2_with fail
        go_loopw [8, 9] (fun s j wr => ∃ k : Nat, k ≤ K ∧ j = .int .i64 ((k : Int) + 1) ∧ s = .int .i64 (sumR k (colCost T row)) ∧ Hid (wr = wo)) (fun _ j _ => K + 1 - (intOf j).toNat)
        case atStart => exact ⟨0, by omega, rfl, rfl, Lib.hid rfl⟩
        case round =>
          obtain ⟨k, hk, rfl, rfl, ⟨rfl⟩⟩ := hrel
          by_cases hlt : k < K
          · have j1 : (k : Int) + 1 < (m : Int) := by omega
            have j2 : (k : Int) + 1 ≤ (K : Int) := by omega
            have j3 : (k : Int) < (K : Int) := by omega
            have c3 := H.out.r4.rowAt (k := k + 1) (by omega)
            have hr := Hle.out (k + 1) (by omega) (by omega)
            obtain ⟨s0, s1⟩ := HB.out k hk
            by_cases h0 : row (k + 1) = 0
            · rw [h0] at c3
              have Hs : Hid (sumR (k + 1) (colCost T row) = sumR k (colCost T row)) := Lib.hid (by show _ + colCost T row k = _; unfold colCost; rw [if_pos h0]; omega)
              clear h0
              go_wp2_with fail
              exact ⟨⟨k + 1, by omega, by go_num, by rw [Hs.out], Lib.hid trivial⟩, by simp [intOf]; omega⟩
            · obtain ⟨r0, hr0⟩ : ∃ r0, row (k + 1) = r0 + 1 := ⟨row (k + 1) - 1, by omega⟩
              have Hs : Hid (sumR (k + 1) (colCost T row) = sumR k (colCost T row) + T r0 k) := Lib.hid (by show _ + colCost T row k = _; unfold colCost; rw [if_neg h0, hr0]; rfl)
              rw [hr0, Int.natCast_add, Int.natCast_one] at c3
              rw [hr0] at hr
              have d0 := H.out.mod.cell (HT.out.rows r0 (by omega)) id
              have d1 := H.out.mod.cell (HT.out.cells r0 (by omega) k hlt) id
              obtain ⟨x0, x1⟩ := HC.out r0 (by omega) k hlt
              clear h0 hr0
              simp only [far] at s1 x1
              have r1 : (r0 : Int) < (q : Int) := by omega
              generalize T r0 k = x at d1 x0 x1 Hs
              generalize sumR k (colCost T row) = y at s0 s1 Hs ⊢
              go_wp2_with fail
              exact ⟨⟨k + 1, by omega, by go_num, by rw [Hs.out], Lib.hid trivial⟩, by simp [intOf]; omega⟩
          · obtain rfl : k = K := by omega
            obtain ⟨t, t1, t2, t3⟩ := HL.out
            have j1 : (k : Int) < (k : Int) + 1 := by omega
            have b1 := H.out.b1
            have b2 := H.out.b2
            have l1 : (1 : Int) ≤ (n1 : Int) := by omega
            have l2 : (1 : Int) ≤ (m : Int) := by omega
            go_upto_region 15 with fail
            go_region
            go_wp2_with fail
            have e1 : n1 - 1 = q := by omega
            have e2 : m - 1 = k := by omega
            rw [t3, e1, e2]
            go_ret3
            exact ⟨t, _, _, _, _, rfl, Nat.le_refl _, t1, H.out.mod.drew⟩

end Go.Proofs.Ytnacoglfhhenhaa
