/-
  match: the code's solve.
-/
import Derived.Test.YtnpdkpbecmpdbaaHt
import Derived.Test.YtnpdkpbecmpdbaaHq
set_option linter.unusedVariables false
set_option linter.unusedSimpArgs false
namespace Go.Proofs.Ytnpdkpbecmpdbaa
open Go.RowKit

/-- A search between rows. -/
structure SS (W wr : World) (t : TypeId) (bu bv br bf g : Nat) (a : Option Addr) (ca n n1 m : Nat) (u v : Nat → Int) (row fr : Nat → Nat) : Prop where
  mod : Mod NoBlock W wr
  box : wr.rowIs g t 5 (fun i => (five bu bv br bf a ca n n1 m).getD i undef)
  r4 : R4 wr bu bv br bf n1 m u v row fr
  h1 : g ≠ bu ∧ g ≠ bv ∧ g ≠ br ∧ g ≠ bf
  h3 : W.heap.size ≤ bu ∧ W.heap.size ≤ bv ∧ W.heap.size ≤ br ∧ W.heap.size ≤ bf ∧ W.heap.size ≤ g

section
variable {W wr : World} {t : TypeId} {bu bv br bf g : Nat} {a : Option Addr} {ca n n1 m : Nat} {u v : Nat → Int} {row fr : Nat → Nat}
theorem SS.not4 (h : SS W wr t bu bv br bf g a ca n n1 m u v row fr) : ∀ b, b < W.heap.size → ¬ Own4 bu bv br bf b := fun b hb => by
  have := h.h3
  unfold Own4
  omega
theorem SS.own {w' : World} {u' v' : Nat → Int} {row' fr' : Nat → Nat} (h : SS W wr t bu bv br bf g a ca n n1 m u v row fr) (hm : Mod (Own4 bu bv br bf) wr w') (hr : R4 w' bu bv br bf n1 m u' v' row' fr') :
    SS W w' t bu bv br bf g a ca n n1 m u' v' row' fr' := by
  refine ⟨h.mod.step hm fun b hb ho => absurd ho (h.not4 b hb), h.box.of_block (hm.block _ h.box.lt (by have := h.h1; unfold Own4; omega)), hr, h.h1, h.h3⟩
theorem SS.setRow (h : SS W wr t bu bv br bf g a ca n n1 m u v row fr) {k x : Nat} {row' : Nat → Nat} (hx : k < m → x = row' k) (hf : ∀ j, j < m → j ≠ k → row j = row' j) : SS W (wr.setCell ⟨br, k, none⟩ (.int .i64 (x : Int))) t bu bv br bf g a ca n n1 m u v row' fr :=
  h.own ((Mod.refl _ _).setCell (p := ⟨br, k, none⟩) (.inl (.inr (.inr (.inl rfl)))) _) (h.r4.setRow hx hf)
theorem SS.drew (h : SS W wr t bu bv br bf g a ca n n1 m u v row fr) : SS W wr.drew t bu bv br bf g a ca n n1 m u v row fr := ⟨h.mod.drew, h.box, h.r4.drewN 1, h.h1, h.h3⟩
theorem SS.b0 (h : SS W wr t bu bv br bf g a ca n n1 m u v row fr) : wr.cell? ⟨g, 0, none⟩ = some (.slice a n ca) := h.box.cell (i := 0) (by omega)
theorem SS.b1 (h : SS W wr t bu bv br bf g a ca n n1 m u v row fr) : wr.cell? ⟨g, 1, none⟩ = some (.slice (some ⟨bu, 0, none⟩) n1 n1) := h.box.cell (i := 1) (by omega)
theorem SS.b2 (h : SS W wr t bu bv br bf g a ca n n1 m u v row fr) : wr.cell? ⟨g, 2, none⟩ = some (.slice (some ⟨bv, 0, none⟩) m m) := h.box.cell (i := 2) (by omega)
theorem SS.b3 (h : SS W wr t bu bv br bf g a ca n n1 m u v row fr) : wr.cell? ⟨g, 3, none⟩ = some (.slice (some ⟨br, 0, none⟩) m m) := h.box.cell (i := 3) (by omega)
theorem SS.b4 (h : SS W wr t bu bv br bf g a ca n n1 m u v row fr) : wr.cell? ⟨g, 4, none⟩ = some (.slice (some ⟨bf, 0, none⟩) m m) := h.box.cell (i := 4) (by omega)
end

theorem Tab.frame {D E : Nat → Prop} {w w' : World} {ba oa n K : Nat} {c : Nat → Nat → Int} {ra ro rc : Nat → Nat} (h : Tab D w ba oa n K c ra ro rc) (hm : Mod E w w') (hE : ∀ b, D b → ¬ E b) : Tab D w' ba oa n K c ra ro rc :=
  ⟨h.base, fun r hr => hm.cell (h.rows r hr) (hE _ (h.base (by omega))), h.own, fun r hr j hj => hm.cell (h.cells r hr j hj) (hE _ (h.own r hr))⟩

def z0 : Nat → Int := fun _ => 0
def n0 : Nat → Nat := fun _ => 0

theorem four (w : World) (x1 x2 x3 x4 : Nat) : let A := fun x => Obj.cells (madeCells #[.int .i64 0] x) 3
    let W := (((w.alloc (A x1)).alloc (A x2)).alloc (A x3)).alloc (A x4)
    W.rowIs w.heap.size 3 x1 (fun _ => .int .i64 0) ∧ W.rowIs (w.heap.size + 1) 3 x2 (fun _ => .int .i64 0) ∧ W.rowIs (w.heap.size + 1 + 1) 3 x3 (fun _ => .int .i64 0) ∧ W.rowIs (w.heap.size + 1 + 1 + 1) 3 x4 (fun _ => .int .i64 0) := by
  intro A W
  have h1 := World.rowIs_made w (.int .i64 0) x1 3
  have h2 := World.rowIs_made (w.alloc (A x1)) (.int .i64 0) x2 3
  have h3 := World.rowIs_made ((w.alloc (A x1)).alloc (A x2)) (.int .i64 0) x3 3
  have h4 := World.rowIs_made (((w.alloc (A x1)).alloc (A x2)).alloc (A x3)) (.int .i64 0) x4 3
  have e2 : (w.alloc (A x1)).heap.size = w.heap.size + 1 := by simp
  have e3 : ((w.alloc (A x1)).alloc (A x2)).heap.size = w.heap.size + 1 + 1 := by simp
  have e4 : (((w.alloc (A x1)).alloc (A x2)).alloc (A x3)).heap.size = w.heap.size + 1 + 1 + 1 := by simp
  rw [e2] at h2
  rw [e3] at h3
  rw [e4] at h4
  exact ⟨((h1.alloc _).alloc _).alloc _, (h2.alloc _).alloc _, h3.alloc _, h4⟩

theorem ss_made {w : World} {x1 x2 x3 x4 bu bv br bf n n1 m ca : Nat} {a : Option Addr} (t : TypeId)
    (hu : ((((w.alloc (Obj.cells (madeCells #[.int .i64 0] x1) 3)).alloc (Obj.cells (madeCells #[.int .i64 0] x2) 3)).alloc (Obj.cells (madeCells #[.int .i64 0] x3) 3)).alloc (Obj.cells (madeCells #[.int .i64 0] x4) 3)).rowIs bu 3 n1 (fun _ => .int .i64 0))
    (hv : ((((w.alloc (Obj.cells (madeCells #[.int .i64 0] x1) 3)).alloc (Obj.cells (madeCells #[.int .i64 0] x2) 3)).alloc (Obj.cells (madeCells #[.int .i64 0] x3) 3)).alloc (Obj.cells (madeCells #[.int .i64 0] x4) 3)).rowIs bv 3 m (fun _ => .int .i64 0))
    (hr : ((((w.alloc (Obj.cells (madeCells #[.int .i64 0] x1) 3)).alloc (Obj.cells (madeCells #[.int .i64 0] x2) 3)).alloc (Obj.cells (madeCells #[.int .i64 0] x3) 3)).alloc (Obj.cells (madeCells #[.int .i64 0] x4) 3)).rowIs br 3 m (fun _ => .int .i64 0))
    (hf : ((((w.alloc (Obj.cells (madeCells #[.int .i64 0] x1) 3)).alloc (Obj.cells (madeCells #[.int .i64 0] x2) 3)).alloc (Obj.cells (madeCells #[.int .i64 0] x3) 3)).alloc (Obj.cells (madeCells #[.int .i64 0] x4) 3)).rowIs bf 3 m (fun _ => .int .i64 0))
    (hne : bu ≠ bv ∧ bu ≠ br ∧ bu ≠ bf ∧ bv ≠ br ∧ bv ≠ bf ∧ br ≠ bf) (hS : w.heap.size ≤ bu ∧ w.heap.size ≤ bv ∧ w.heap.size ≤ br ∧ w.heap.size ≤ bf) :
    SS w (((((w.alloc (Obj.cells (madeCells #[.int .i64 0] x1) 3)).alloc (Obj.cells (madeCells #[.int .i64 0] x2) 3)).alloc (Obj.cells (madeCells #[.int .i64 0] x3) 3)).alloc (Obj.cells (madeCells #[.int .i64 0] x4) 3)).alloc
      (.cells #[.slice a n ca, .slice (some ⟨bu, 0, none⟩) n1 n1, .slice (some ⟨bv, 0, none⟩) m m, .slice (some ⟨br, 0, none⟩) m m, .slice (some ⟨bf, 0, none⟩) m m] t)).drew t bu bv br bf (w.heap.size + 1 + 1 + 1 + 1) a ca n n1 m z0 z0 n0 n0 := by
  have hs : ((((w.alloc (Obj.cells (madeCells #[.int .i64 0] x1) 3)).alloc (Obj.cells (madeCells #[.int .i64 0] x2) 3)).alloc (Obj.cells (madeCells #[.int .i64 0] x3) 3)).alloc (Obj.cells (madeCells #[.int .i64 0] x4) 3)).heap.size = w.heap.size + 1 + 1 + 1 + 1 := by simp
  have l1 := hu.lt
  have l2 := hv.lt
  have l3 := hr.lt
  have l4 := hf.lt
  rw [hs] at l1 l2 l3 l4
  have hb := rowIs_new ((((w.alloc (Obj.cells (madeCells #[.int .i64 0] x1) 3)).alloc (Obj.cells (madeCells #[.int .i64 0] x2) 3)).alloc (Obj.cells (madeCells #[.int .i64 0] x3) 3)).alloc (Obj.cells (madeCells #[.int .i64 0] x4) 3)) #[.slice a n ca, .slice (some ⟨bu, 0, none⟩) n1 n1, .slice (some ⟨bv, 0, none⟩) m m, .slice (some ⟨br, 0, none⟩) m m, .slice (some ⟨bf, 0, none⟩) m m] t
  rw [hs] at hb
  exact ⟨((((((Mod.refl _ w).alloc _).alloc _).alloc _).alloc _).alloc _).drew, hb, ⟨hu.alloc _, hv.alloc _, hr.alloc _, hf.alloc _, hne⟩, by omega, by omega⟩

set_option maxRecDepth 100000 in
set_option maxHeartbeats 6400000 in
theorem solve_any {w : World} {ba oa ca n K : Nat} {c0 c : Nat → Nat → Int} {ra ro rc : Nat → Nat} (hT : Tab (fun b => b < w.heap.size) w ba oa n K c0 ra ro rc)
    (hcc : ∀ r j, c (r + 1) (j + 1) = c0 r j) (hc : CostOk c n K) (hnK : n ≤ K) (hK : K ≤ 100) (hn0 : n = 0 → K = 0) :
    Calls Try.prog 57 #[.slice (some ⟨ba, oa, none⟩) n ca] w fun e w' => ∃ bu bv br bf g n1 m u v row fr, e = .returned (.pointer (some ⟨g, 0, none⟩)) ∧ n < n1 ∧ n1 ≤ n + 1 ∧ K < m ∧ m ≤ K + 1 ∧ HD c n K n row u v ∧ BUV n K u v ∧
      SS w w' 118 bu bv br bf g (some ⟨ba, oa, none⟩) ca n n1 m u v row fr := by
  obtain ⟨n1, hn1⟩ : ∃ n1, n1 = n + 1 := ⟨_, rfl⟩
  obtain ⟨m, hm⟩ : ∃ m, m = K + 1 := ⟨_, rfl⟩
  have m1 : K < m := by omega
  have m2 : m ≤ K + 1 := by omega
  have m3 : n < n1 := by omega
  have m4 : n1 ≤ n + 1 := by omega
  have hm9 : (1 : Int) + (K : Int) = (m : Int) := by omega
  have hn9 : (n : Int) + 1 = (n1 : Int) := by omega
  clear hm hn1
  have HT := Lib.hid hT
  have HC := Lib.hid hc
  have HCC := Lib.hid hcc
  have H0 := Lib.hid (HD.zero hc)
  have hmk := run_make_row' (P := Try.prog) 31 3 (.int .i64 0) 8 Try.underlying31 infoIntM rfl .i64 .i64 m (by omega) (by omega)
  have hmk1 := run_make_row' (P := Try.prog) 31 3 (.int .i64 0) 8 Try.underlying31 infoIntM rfl .i64 .i64 n1 (by omega) (by omega)
  clear hT hc hcc
  go_enter Try.func57, Try.ntmps57
  go_upto_if 9 with fail
  go_cut [3] (fun s3 wx => s3 = .int .i64 (m : Int) ∧ w = wx)
  case first =>
    by_cases hn : 0 < n
    · have d0 := HT.out.rows 0 hn
      rw [Nat.add_zero] at d0
      have hi : (0 : Int) < (n : Int) := by omega
      go_wp2_with fail
      go_meet
      exact ⟨rfl, rfl⟩
    · have hm1 : (m : Int) = 1 := by omega
      clear hm9
      go_wp2_with fail
      go_meet
      exact ⟨by rw [hm1], rfl⟩
  case rest =>
    obtain ⟨rfl, rfl⟩ := hcut
    go_upto_region 4 with fail
    go_cut [4] (fun s4 wx => ∃ bu bv br bf g, s4 = .pointer (some ⟨g, 0, none⟩) ∧ Hid (SS w wx 118 bu bv br bf g (some ⟨ba, oa, none⟩) ca n n1 m z0 z0 n0 n0))
    case first =>
      go_region
      all_goals (go_wp2_with fail; go_meet)
      all_goals refine ⟨_, _, _, _, _, rfl, Lib.hid (ss_made _ ?_ ?_ ?_ ?_ (by omega) (by omega))⟩
      all_goals first | exact (four _ _ _ _ _).1 | exact (four _ _ _ _ _).2.1 | exact (four _ _ _ _ _).2.2.1 | exact (four _ _ _ _ _).2.2.2
    case rest =>
      obtain ⟨bu, bv, br, bf, g, rfl, Hs⟩ := hcut
      clear hmk hmk1 hm9 hn9
      go_wp2_with fail
      go_loopg [5] n (fun k i wr => ∃ (q : Nat) (u v : Nat → Int) (row fr : Nat → Nat), q + k = n ∧ i = .int .i64 ((q : Int) + 1) ∧ HD c n K q row u v ∧ BUV n K u v ∧ SS w wr 118 bu bv br bf g (some ⟨ba, oa, none⟩) ca n n1 m u v row fr)
      case atStart => exact ⟨0, z0, z0, n0, n0, by omega, rfl, H0.out, BUV.zero n K, Hs.out⟩
      case round =>
        clear Hs
        obtain ⟨q, u, v, row, fr, hqk, rfl, hd, hbv, hss⟩ := hrel
        have HBV := Lib.hid hbv
        clear hbv
        have H := Lib.hid hss
        have HH := Lib.hid hd
        clear hd hss
        obtain ⟨wo, rfl⟩ : ∃ wo : World, wo = wr := ⟨_, rfl⟩
        by_cases hlt : q < n
        · have q1 : (q : Int) + 1 ≤ (n : Int) := by omega
          have q2 : (q : Int) < (n : Int) := by omega
          have Hqk := Lib.hid hqk
          clear hqk
          have HFO := Lib.hid (fun t s h hat => PI.found (inf := inf60) (z := v 0 + u (q + 1)) (t := t) (s := s) HH.out hlt h hat)
          have HBB := Lib.hid (fun t s h => back_bound (inf := inf60) (t := t) (s := s) (z := v 0 + u (q + 1)) HH.out hlt hnK HC.out h)
          have HBD := Lib.hid (fun t s rk row1 h a => back_done (inf := inf60) (t := t) (s := s) (rk := rk) (row1 := row1) HH.out hlt hnK HC.out h a)
          have Hpath := Lib.hid (path_any (HT.out.frame H.out.mod (fun _ _ => id)) H.out.not4 HCC.out HC.out HH.out hlt hnK hK m1 m2 m3 m4 H.out.h1 H.out.box H.out.r4)
          go_wp2_with (go_at_call 68; refine Hpath.out.mono ?_; rintro e w1 ⟨s, tt, rfl, hf⟩)
          obtain ⟨f1, f2, f3, f4⟩ := hf
          obtain ⟨rk, ha, hrk, hu, he⟩ := HFO.out tt s f1 f2
          have HU := Lib.hid hu
          have HE := Lib.hid he
          have HA := Lib.hid ha
          have HP := Lib.hid f1
          have H2 := Lib.hid (H.out.own f4 f3)
          clear ha hrk hu he f1 f2 f3 f4 Hpath HFO H HH
          go_loopg [6] (rk s.at_) (fun k at_ wr => ∃ (h : Nat) (row1 : Nat → Nat), at_ = .int .i64 (h : Int) ∧ Aug c n K (q + 1) s.u s.v (rootAt row (q + 1)) s.fr s.us rk row1 h ∧ k = rk h ∧ SS w wr 118 bu bv br bf g (some ⟨ba, oa, none⟩) ca n n1 m s.u s.v row1 s.fr)
          case atStart => exact ⟨s.at_, _, rfl, HA.out, rfl, H2.out⟩
          case round =>
            clear H2 HA
            clear wo w1
            obtain ⟨h, row1, rfl, ha, hgk, hss⟩ := hrel
            have H := Lib.hid hss
            have HA := Lib.hid ha
            have hK' := ha.hK
            have Hgk := Lib.hid hgk
            clear hss ha hgk
            obtain ⟨wo, rfl⟩ : ∃ wo : World, wo = wr := ⟨_, rfl⟩
            by_cases h0 : h = 0
            · subst h0
              go_wp2_with fail
              go_roundg (n - q - 1)
              case measure => have := Hqk.out; omega
              case rel => exact ⟨q + 1, s.u, s.v, row1, s.fr, by have := Hqk.out; omega, by go_num, HBD.out tt s rk row1 HP.out HA.out, HBB.out tt s HP.out, H.out⟩
            · obtain ⟨a1, a2, a3⟩ := HA.out.step HU.out HE.out h0
              have b4 := H.out.b4
              have b3 := H.out.b3
              have c1 := H.out.r4.frAt (k := h) (by omega)
              have c2 := H.out.r4.rowAt (k := s.fr h) (by have := a1.hK; omega)
              have c3 := H.out.r4.rowAt (k := h) (by omega)
              have f3 := H.out.r4.hrow.frozen h
              have l1 : (h : Int) < (m : Int) := by omega
              have l2 : ((s.fr h : Nat) : Int) < (m : Int) := by have := a1.hK; omega
              have Hn1 := Lib.hid (H.out.setRow (k := h) (x := row1 (s.fr h)) (row' := shift row1 s.fr h) (fun _ => (if_pos rfl).symm) (fun j _ hj => (if_neg hj).symm)).drew
              have A1 := Lib.hid a1
              have A2 := Lib.hid a2
              have A3 := Lib.hid a3
              clear a1 a2 a3
              generalize hb : s.fr h = b at c1 c2 l2 A1 A2 A3 Hn1
              have Hb := Lib.hid hb
              clear hb
              generalize row1 b = x at c2 Hn1
              go_upto_region 11 with fail
              go_region
              generalize (wo.setCell ⟨br, h, none⟩ (.int .i64 (x : Int))).drew = w5 at Hn1 ⊢
              clear b3 b4 c1 c2 c3 f3
              have b4 := Hn1.out.b4
              have c1 := Hn1.out.r4.frAt (k := h) (by omega)
              rw [Hb.out] at c1
              go_wp2_with fail
              go_roundg (rk b)
              case measure => rw [Hgk.out]; exact A2.out
              case rel => exact ⟨b, _, rfl, A1.out, rfl, Hn1.out⟩
        · have q1 : (n : Int) < (q : Int) + 1 := by omega
          obtain rfl : q = n := by omega
          go_wp2_with fail
          go_ret
          exact ⟨bu, bv, br, bf, g, n1, m, u, v, row, fr, rfl, m3, m4, m1, m2, HH.out, HBV.out, H.out⟩

end Go.Proofs.Ytnpdkpbecmpdbaa
