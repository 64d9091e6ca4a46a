/-
  camera: Next of a carry.
-/
import Derived.Test.YtnpdkpbecmpdbaaCf
set_option linter.unusedVariables false
set_option linter.unusedSimpArgs false
namespace Go.Proofs.Ytnpdkpbecmpdbaa
open Go.RowKit

/-- What is owed, when the rates of the first i outputs are added. -/
def midO (R O : Nat → Int) (i j : Nat) : Int := if j < i then addO R O j else O j
theorem midO_lt {R O : Nat → Int} {i j : Nat} (h : j < i) : midO R O i j = addO R O j := if_pos h
theorem midO_ge {R O : Nat → Int} {i j : Nat} (h : ¬ j < i) : midO R O i j = O j := if_neg h
theorem bestO_up {R O : Nat → Int} {k : Nat} (h : addO R O (bestO R O k) < addO R O k) : bestO R O (k + 1) = k := if_pos h
theorem bestO_not {R O : Nat → Int} {k : Nat} (h : ¬ addO R O (bestO R O k) < addO R O k) : bestO R O (k + 1) = bestO R O k := if_neg h

theorem infoIntsC : (Try.prog.info? 3).map (fun i => (i.zero, i.size, i.bytes)) = some (some (.int .i64 0), 1, 8) := by kernel_rfl

theorem bestO_le (R O : Nat → Int) (k : Nat) : bestO R O k ≤ k := by
  by_cases h : 1 ≤ k
  · exact Nat.le_of_lt (bestO_lt R O h)
  · obtain rfl : k = 0 := by omega
    exact Nat.le_refl _

def carryG (n : Nat) (R O : Nat → Int) (f : Nat → Value) : Prop := f 0 = .int .i64 n ∧ (∀ i, i < n → f (1 + i) = .int .i64 (R i)) ∧ (∀ i, i < n → f (5 + i) = .int .i64 (O i))
theorem carryG.setO {n : Nat} {R O O' : Nat → Int} {f : Nat → Value} (h : carryG n R O f) {k : Nat} {v : Int} (hk : k < n) (h4 : n ≤ 4) (hv : v = O' k) (ho : ∀ j, j < n → j ≠ k → O j = O' j) :
    carryG n R O' (fun j => if j = 5 + k then .int .i64 v else f j) := by
  refine ⟨?_, fun i hi => ?_, fun i hi => ?_⟩
  · show (if 0 = 5 + k then _ else f 0) = _
    rw [if_neg (by omega)]; exact h.1
  · show (if 1 + i = 5 + k then _ else f (1 + i)) = _
    rw [if_neg (by omega)]; exact h.2.1 i hi
  · show (if 5 + i = 5 + k then _ else f (5 + i)) = _
    by_cases hik : i = k
    · subst hik; rw [if_pos rfl, hv]
    · rw [if_neg (by omega), h.2.2 i hi, ho i hi hik]

set_option maxRecDepth 100000 in
set_option maxHeartbeats 3200000 in
theorem next_any (g : Nat) (rs os : List Int) (x : Int) (w : World) (hc : CarryAt w g rs os) (h0 : rowE rs = 0) (ho : OkO rs os) (x0 : 0 ≤ x) (x1 : x ≤ 1073741824) :
    Calls Try.prog 28 #[.pointer (some ⟨g, 0, none⟩), .int .i64 x] w fun e w' => e = .returned (.tuple #[.slice (some ⟨w.heap.size, 0, none⟩) rs.length rs.length, .int .i64 0]) ∧
      Mod (fun b => b = g) w w' ∧ CarryAt w' g rs (nextO rs os x) ∧ Ints (fun b => w.heap.size ≤ b) w' (some ⟨w.heap.size, 0, none⟩) (nextP rs os x) := by
  obtain ⟨f0, hrow, hf⟩ := hc
  obtain ⟨l1, l4, hr, hs⟩ := row_ok h0
  have HR := Lib.hid hr
  have Hok := Lib.hid (fun k => okO.units (O := ix os) l1 (fun j hj => (hr j hj).1) (by rw [sumF_ix]; exact hs) ho.2 k)
  have Hlow := Lib.hid (fun P k j => units_low (n := rs.length) (R := ix rs) (O := ix os) P k j)
  have HnO := Lib.hid (show ∀ j, j < rs.length → ix (nextO rs os x) j = unitsO rs.length (ix rs) (ix os) (x % 1000).toNat j from fun j h => ix_nextO rs os x h)
  have HnP := Lib.hid (show ∀ j, j < rs.length → ix (nextP rs os x) j = unitsP rs.length (ix rs) (ix os) (fun j => x / 1000 * ix rs j) (x % 1000).toNat j from fun j h => ix_nextP rs os x h)
  have LnO := Lib.hid (nextO_length rs os x)
  have LnP := Lib.hid (nextP_length rs os x)
  have HG0 := Lib.hid (show carryG rs.length (ix rs) (ix os) f0 from hf)
  have Hrow0 := Lib.hid hrow
  clear h0 ho hr hs hf hrow
  obtain ⟨n, hn⟩ : ∃ n, rs.length = n := ⟨_, rfl⟩
  obtain ⟨R, hR⟩ : ∃ R, ix rs = R := ⟨_, rfl⟩
  obtain ⟨O, hO⟩ : ∃ O, ix os = O := ⟨_, rfl⟩
  rw [hn, hR] at HR
  rw [hn, hR, hO] at Hok Hlow HnO HnP HG0
  rw [hn] at LnO LnP l1 l4 ⊢
  have Hnx : Hid (∀ w' f, w'.rowIs g 102 9 f → carryG n R (unitsO n R O (x % 1000).toNat) f → CarryAt w' g rs (nextO rs os x)) := Lib.hid (by
    intro w' f h1 h2
    refine ⟨f, h1, ?_, ?_, ?_⟩
    · rw [hn]; exact h2.1
    · rw [hn, hR]; exact h2.2.1
    · rw [hn]; intro i hi; rw [HnO.out _ hi]; exact h2.2.2 i hi)
  have n1 : (1 : Int) ≤ n := by omega
  have n4 : (n : Int) ≤ 4 := by omega
  have hmk := run_make_row' (P := Try.prog) 31 3 (.int .i64 0) 8 Try.underlying31 infoIntsC rfl .i64 .i64 n (by omega) (by omega)
  have Hrow1 := Lib.hid (World.rowIs_made w (.int .i64 0) n 3)
  have q1 : ¬ x < 0 := by omega
  have q2 : ¬ 1073741824 < x := by omega
  have hc0 := Hrow0.out.cell (i := 0) (by omega)
  rw [HG0.out.1] at hc0
  have Hc2 := Lib.hid (Hrow0.out.alloc (.cells (madeCells #[.int .i64 0] n) 3))
  have hg0 := Hrow0.out.lt
  go_enter Try.func28, Try.ntmps28
  go_wp2
  obtain ⟨q, hq⟩ : ∃ q, x / 1000 = q := ⟨_, rfl⟩
  obtain ⟨r, hr⟩ : ∃ r : Nat, x % 1000 = r := ⟨(x % 1000).toNat, by rw [Int.toNat_of_nonneg (Int.emod_nonneg _ (by decide))]⟩
  have eq1 : x.tdiv 1000 = q := by rw [Int.tdiv_eq_ediv_of_nonneg x0]; exact hq
  have er1 : x.tmod 1000 = r := by rw [Int.tmod_eq_emod_of_nonneg x0]; exact hr
  have r9 : r < 1000 := by omega
  have hq0 : 0 ≤ q := by omega
  have hq1 : q ≤ 1073742 := by omega
  have ern : (x % 1000).toNat = r := by rw [hr]; rfl
  rw [ern] at HnO HnP Hnx
  rw [hq] at HnP
  obtain ⟨P, hP⟩ : ∃ P : Nat → Int, (fun j => q * R j) = P := ⟨_, rfl⟩
  rw [hP] at HnP
  have HP := Lib.hid (fun j => (congrFun hP j).symm)
  have M1 := Lib.hid ((Mod.refl (fun b => b = g) w).alloc (.cells (madeCells #[.int .i64 0] n) 3))
  clear hP hq hr ern hR hO hn hmk hc0 Hrow0
  generalize w.alloc (.cells (madeCells #[.int .i64 0] n) 3) = w0 at Hrow1 Hc2 M1 ⊢
  go_loopw [7, 25] (fun u i wr => ∃ (k : Nat) (f : Nat → Value), k ≤ n ∧ i = .int .i64 k ∧ Mod (fun b => b = g) w wr ∧ wr.rowIs w.heap.size 3 n f ∧ wr.rowIs g 102 9 f0 ∧ ∀ j, j < k → f j = .int .i64 (P j)) (fun _ i _ => n - (intOf i).toNat)
  case atStart => exact ⟨0, _, by omega, rfl, M1.out, Hrow1.out, Hc2.out, fun j hj => absurd hj (by omega)⟩
  case round =>
    obtain ⟨k, f, hk, rfl, hm, hrow, hcar, hf⟩ := hrel
    have M := Lib.hid hm
    have Hrow := Lib.hid hrow
    have Hcar := Lib.hid hcar
    have F := Lib.hid hf
    clear hm hrow hcar hf M1 Hc2 Hrow1
    obtain ⟨wo, rfl⟩ : ∃ wo : World, wo = wr := ⟨_, rfl⟩
    by_cases hlt : k < n
    · have hc1 := Hcar.out.cell (i := 1 + k) (by omega)
      rw [HG0.out.2.1 k hlt] at hc1
      have hc2 := Hrow.out.cell hlt
      have hz2 := Hrow.out.frozen k
      obtain ⟨r0, r1⟩ := HR.out k hlt
      have p0 : 0 ≤ q * R k := Int.mul_nonneg hq0 r0
      have p1 : q * R k ≤ 1073742 * 1000 := Int.mul_le_mul hq1 r1 r0 (by decide)
      have p2 : q * R k ≤ 1073742000 := p1
      have k4 : (k : Int) < 4 := by omega
      clear p1
      have Hk := Lib.hid (HP.out k)
      generalize R k = v at hc1 p0 p2 Hk
      clear r0 r1
      have hgb : g ≠ w.heap.size := by omega
      go_wp2
      refine ⟨⟨k + 1, _, by omega, by go_num, M.out.setCell (p := ⟨w.heap.size, k, Option.none⟩) (.inr (Nat.le_refl _)) _, Hrow.out.set k _, Hcar.out.setOther hgb _, fun j hj => ?_⟩, by simp [intOf]; omega⟩
      show (if j = k then _ else f j) = _
      by_cases hj2 : j = k
      · subst hj2; rw [if_pos rfl, Hk.out]
      · rw [if_neg hj2]; exact F.out j (by omega)
    · have hkn : k = n := by omega
      subst hkn
      go_wp2
      have HP1 := Lib.hid (show ∀ j, j < k → 0 ≤ P j ∧ P j ≤ 1073742000 from fun j hj => by
        have h := HR.out j hj
        rw [HP.out j]
        have p1 : q * R j ≤ 1073742 * 1000 := Int.mul_le_mul hq1 h.2 h.1 (by decide)
        exact ⟨Int.mul_nonneg hq0 h.1, p1⟩)
      clear hlt hk
      go_loopw [8, 9, 43, 49] (fun m u i v wr => ∃ (e : Nat) (f h : Nat → Value), e ≤ r ∧ i = .int .i64 e ∧ Mod (fun b => b = g) w wr ∧ wr.rowIs w.heap.size 3 k f ∧ wr.rowIs g 102 9 h ∧ (∀ j, j < k → f j = .int .i64 (unitsP k R O P e j)) ∧ carryG k R (unitsO k R O e) h) (fun _ _ i _ _ => r - (intOf i).toNat)
      case atStart => exact ⟨0, f, f0, by omega, rfl, M.out, Hrow.out, Hcar.out, F.out, HG0.out⟩
      case round =>
        clear Hrow Hcar F M HG0
        clear f
        obtain ⟨e, f, h, he, rfl, hm, hrow, hcar, hf, hg⟩ := hrel
        have M := Lib.hid hm
        have Hrow := Lib.hid hrow
        have Hcar := Lib.hid hcar
        have F := Lib.hid hf
        have G := Lib.hid hg
        clear hm hrow hcar hf hg
        clear wo
        obtain ⟨wo, rfl⟩ : ∃ wo : World, wo = wr := ⟨_, rfl⟩
        by_cases hlt : e < r
        · have hok := Hok.out e
          have Hok1 := Lib.hid (show ∀ j, j < k → -1000 < unitsO k R O e j ∧ unitsO k R O e j ≤ 3000 from fun j hj => ⟨hok.2 j hj, by have := hok.high hj; omega⟩)
          clear hok
          have HE := Lib.hid (show unitsO k R O (e + 1) = unitO k R (unitsO k R O e) from rfl)
          have HF := Lib.hid (show ∀ j, unitsP k R O P (e + 1) j = unitsP k R O P e j + if j = bestO R (unitsO k R O e) k then 1 else 0 from fun j => rfl)
          generalize unitsO k R O e = E at G Hok1 HE HF
          have hc0 := Hcar.out.cell (i := 0) (by omega)
          rw [G.out.1] at hc0
          go_wp2
          clear hc0
          go_loopw [8, 9, 49] (fun m u i wr => ∃ (i' : Nat) (h : Nat → Value), i' ≤ k ∧ i = .int .i64 i' ∧ m = .int .i64 (bestO R E i') ∧ Mod (fun b => b = g) w wr ∧ wr.rowIs w.heap.size 3 k f ∧ wr.rowIs g 102 9 h ∧ carryG k R (midO R E i') h) (fun _ _ i _ => k - (intOf i).toNat)
          case atStart => exact ⟨0, h, by omega, rfl, rfl, M.out, Hrow.out, Hcar.out, G.out.1, G.out.2.1, G.out.2.2⟩
          case round =>
            clear M Hrow Hcar G
            clear h
            obtain ⟨i, h, hi, rfl, rfl, hm, hrow, hcar, hg⟩ := hrel
            have M := Lib.hid hm
            have Hrow := Lib.hid hrow
            have Hcar := Lib.hid hcar
            have G := Lib.hid hg
            clear hm hrow hcar hg
            clear wo
            obtain ⟨wo, rfl⟩ : ∃ wo : World, wo = wr := ⟨_, rfl⟩
            by_cases hlt2 : i < k
            · have hc1 := Hcar.out.cell (i := 1 + i) (by omega)
              rw [G.out.2.1 i hlt2] at hc1
              have hc2 := Hcar.out.cell (i := 5 + i) (by omega)
              rw [G.out.2.2 i hlt2, midO_ge (by omega)] at hc2
              have hz2 := Hcar.out.frozen (5 + i)
              obtain ⟨r0, r1⟩ := HR.out i hlt2
              obtain ⟨o0, o1⟩ := Hok1.out i hlt2
              have k4 : (i : Int) < 4 := by omega
              have k0 : (0 : Int) ≤ (i : Int) := by omega
              have HA := Lib.hid (show E i + R i = addO R E i from rfl)
              obtain ⟨u, hu⟩ : ∃ u, R i = u := ⟨_, rfl⟩
              obtain ⟨v, hv⟩ : ∃ v, E i = v := ⟨_, rfl⟩
              rw [hu] at hc1 r0 r1 HA
              rw [hv] at hc2 o0 o1 HA
              clear hu hv
              have e6 : IntKind.i64.wrap (v + u) = v + u := IntWalk.i64_in _ (by omega)
              go_wp2
              go_region
              have hrow2 := (Hcar.out.set (5 + i) (.int .i64 (v + u))).drew
              have hg2 : carryG k R (midO R E (i + 1)) (fun j => if j = 5 + i then .int .i64 (v + u) else h j) :=
                G.out.setO hlt2 (by omega) (by rw [midO_lt (by omega)]; exact HA.out) (fun j hj hne => by
                  by_cases hj2 : j < i
                  · rw [midO_lt hj2, midO_lt (by omega)]
                  · rw [midO_ge hj2, midO_ge (by omega)])
              have hm2 := (M.out.setCell (p := ⟨g, 5 + i, Option.none⟩) (.inl rfl) (.int .i64 (v + u))).drew
              have hp2 := (Hrow.out.setOther (a := ⟨g, 5 + i, Option.none⟩) (by show ¬ w.heap.size = g; omega) (.int .i64 (v + u))).drew
              generalize (wo.setCell ⟨g, 5 + i, Option.none⟩ (.int .i64 (v + u))).drew = W at hrow2 hm2 hp2 ⊢
              have hb := bestO_le R E i
              have hc3 := hrow2.cell (i := 5 + i) (by omega)
              rw [if_pos rfl] at hc3
              have hc4 := (hrow2.cell (i := 5 + bestO R E i) (by omega)).trans (congrArg some (hg2.2.2 (bestO R E i) (by omega)))
              rw [midO_lt (by omega)] at hc4
              have M2 := Lib.hid hm2
              have Hrow2 := Lib.hid hp2
              have Hcar2 := Lib.hid hrow2
              have G2 := Lib.hid hg2
              clear hm2 hp2 hrow2 hg2 M Hrow Hcar G
              have hvu : v + u ≤ 4000 ∧ -1000 < v + u := by omega
              obtain ⟨hvu1, hvu2⟩ := hvu
              have b4 : ((bestO R E i : Nat) : Int) < 4 := by omega
              have b0 : (0 : Int) ≤ ((bestO R E i : Nat) : Int) := by omega
              have Hup := Lib.hid (fun h => bestO_up (R := R) (O := E) (k := i) h)
              have Hnot := Lib.hid (fun h => bestO_not (R := R) (O := E) (k := i) h)
              clear hc1 hc2 hz2 r0 r1 o0 o1 e6
              obtain ⟨z, hz⟩ : ∃ z, v + u = z := ⟨_, rfl⟩
              rw [hz] at hc3 hvu1 hvu2 HA
              rw [hz] at G2 Hcar2
              generalize hb9 : bestO R E i = B at *
              generalize hy : addO R E B = y at *
              by_cases hlt3 : y < z
              · have Hb := Lib.hid (Hup.out (by rw [← HA.out]; exact hlt3))
                clear Hup Hnot
                go_wp2_with (go_quiet (fail))
                refine ⟨⟨i + 1, _, by omega, by go_num, by rw [Hb.out], M2.out.drewN _, Hrow2.out, Hcar2.out, G2.out⟩, by simp [intOf]; omega⟩
              · have Hb := Lib.hid (Hnot.out (by rw [← HA.out]; exact hlt3))
                clear Hup Hnot
                go_wp2_with (go_quiet (fail))
                refine ⟨⟨i + 1, _, by omega, by go_num, by rw [Hb.out], M2.out.drewN _, Hrow2.out, Hcar2.out, G2.out⟩, by simp [intOf]; omega⟩
            · have hik : i = k := by omega
              subst hik
              have hb := bestO_lt R E l1
              have hc1 := Hcar.out.cell (i := 5 + bestO R E i) (by omega)
              rw [G.out.2.2 _ hb, midO_lt hb] at hc1
              have hz1 := Hcar.out.frozen (5 + bestO R E i)
              have hc2 := Hrow.out.cell hb
              rw [F.out _ hb] at hc2
              have hz2 := Hrow.out.frozen (bestO R E i)
              obtain ⟨o0, o1⟩ := Hok1.out _ hb
              obtain ⟨r0, r1⟩ := HR.out _ hb
              have ho : -1000 < addO R E (bestO R E i) ∧ addO R E (bestO R E i) ≤ 4000 := by unfold addO; omega
              obtain ⟨p0, p1⟩ := HP1.out _ hb
              obtain ⟨p2, p3⟩ := Hlow.out P e (bestO R E i)
              have b4 : ((bestO R E i : Nat) : Int) < 4 := by omega
              have b0 : (0 : Int) ≤ ((bestO R E i : Nat) : Int) := by omega
              have bk : ((bestO R E i : Nat) : Int) < (i : Int) := by omega
              have HU := Lib.hid (show unitO i R E = fun j => addO R E j - if j = bestO R E i then 1000 else 0 from rfl)
              generalize hb9 : bestO R E i = B at *
              generalize hy : addO R E B = y at hc1 ho
              generalize hpp : unitsP i R O P e B = pp at hc2 p2 p3
              obtain ⟨o2, o3⟩ := ho
              have hpp0 : 0 ≤ pp := by omega
              have hpp1 : pp ≤ 1073743000 := by omega
              have Hy := Lib.hid hy
              have Hpp := Lib.hid hpp
              clear o0 o1 r0 r1 p0 p1 p2 p3 hy hpp
              have e6 : IntKind.i64.wrap (y - 1000) = y - 1000 := IntWalk.i64_in _ (by omega)
              have hgw : g ≠ w.heap.size := by omega
              have hc1' : (wo.setCell ⟨w.heap.size, B, Option.none⟩ (.int .i64 (pp + 1))).cell? ⟨g, 5 + B, Option.none⟩ = some (.int .i64 y) := by
                rw [(Hcar.out.setOther (a := ⟨w.heap.size, B, Option.none⟩) hgw _).cell (by omega), G.out.2.2 _ hb, midO_lt hb, Hy.out]
              have hz1' : (wo.setCell ⟨w.heap.size, B, Option.none⟩ (.int .i64 (pp + 1))).frozen? ⟨g, 5 + B, Option.none⟩ = false :=
                (Hcar.out.setOther (a := ⟨w.heap.size, B, Option.none⟩) hgw _).frozen (5 + B)
              go_wp2
              go_region
              go_wp2
              have hrow2 := ((Hrow.out.set B (.int .i64 (pp + 1))).setOther (a := ⟨g, 5 + B, Option.none⟩) (by show ¬ w.heap.size = g; omega) (.int .i64 (y - 1000))).drew
              have hcar2 := ((Hcar.out.setOther (a := ⟨w.heap.size, B, Option.none⟩) hgw (.int .i64 (pp + 1))).set (5 + B) (.int .i64 (y - 1000))).drew
              have hm2 := ((M.out.setCell (p := ⟨w.heap.size, B, Option.none⟩) (.inr (Nat.le_refl _)) (.int .i64 (pp + 1))).setCell (p := ⟨g, 5 + B, Option.none⟩) (.inl rfl) (.int .i64 (y - 1000))).drew
              refine ⟨⟨e + 1, _, _, by omega, by go_num, hm2, hrow2, hcar2, fun j hj => ?_, ?_⟩, by simp [intOf]; omega⟩
              · show (if j = B then _ else f j) = _
                rw [HF.out j]
                by_cases hj2 : j = B
                · subst hj2; rw [if_pos rfl, if_pos rfl, Hpp.out]
                · rw [if_neg hj2, if_neg hj2, F.out j hj]; simp
              · rw [HE.out, HU.out]
                refine G.out.setO hb (by omega) ?_ (fun j hj hne => ?_)
                · show _ = addO R E B - if B = B then 1000 else 0
                  rw [if_pos rfl, Hy.out]
                · show midO R E i j = addO R E j - if j = B then 1000 else 0
                  rw [if_neg hne, midO_lt hj]; simp
        · have her : e = r := by omega
          subst her
          go_wp2
          go_ret2
          refine ⟨rfl, M.out, Hnx.out _ _ Hcar.out G.out, Ints.of_row Hrow.out (by rw [LnP.out]; exact Nat.le_refl _) (by rw [LnP.out]; simp only [maxLen]; omega) (fun j hj => ?_) (Nat.le_refl _)⟩
          rw [LnP.out] at hj
          rw [F.out j hj, HnP.out j hj]

end Go.Proofs.Ytnpdkpbecmpdbaa
