/-
  camera: the reference's New.
-/
import Derived.Test.YtgoccfjmghhaoaaCo
set_option linter.unusedVariables false
set_option linter.unusedSimpArgs false
namespace Go.Proofs.Ytgoccfjmghhaoaa
open Go.RowKit

theorem Two.ints {w : World} {B : Nat} {a1 a2 : Option Addr} {c1 c2 : Nat} {rs os : List Int} {D : Nat → Prop} (h : Two w B a1 c1 a2 c2 rs os) (hd : ∀ b, B ≤ b → b < w.heap.size → D b) (h1 : rs.length ≤ maxLen) (h2 : os.length ≤ maxLen) : Ints D w a1 rs ∧ Ints D w a2 os := ⟨h.1.ints hd h1, h.2.1.ints hd h2⟩

set_option maxRecDepth 100000 in
set_option maxHeartbeats 3200000 in
theorem refNew_any (a : Option Addr) (c : Nat) (l : List (List Int)) (D : Nat → Prop) (w : World) (hx : Mixes D w a l) (l16 : l.length ≤ 16) (h4 : ∀ k, k < l.length → (rx l k).length ≤ 4) :
    Calls Try.prog 16 #[.agg #[.slice a l.length c]] w fun e w' => ∃ a' c', e = .returned (.agg #[.slice a' l.length c']) ∧ Mod NoBlock w w' ∧ Cars (fun b => w.heap.size ≤ b) w' a' l.length (rx l) (fun k => List.replicate (rx l k).length 0) := by
  have HX := Lib.hid hx
  have H4 := Lib.hid h4
  have n16 : (l.length : Int) ≤ 16 := by omega
  clear hx h4
  go_enter Try.func16, Try.ntmps16
  go_wp2
  have hm0 : Mod NoBlock w (((w.alloc (.cells #[.slice a l.length c] 24)).alloc (.cells #[.slice none 0 0] 37)).alloc (.cells #[.slice none 0 0] 37)) := (((Mod.refl NoBlock w).alloc _).alloc _).alloc _
  have hbox : (((w.alloc (.cells #[.slice a l.length c] 24)).alloc (.cells #[.slice none 0 0] 37)).alloc (.cells #[.slice none 0 0] 37)).rowIs w.heap.size 24 1 (fun i => (#[.slice a l.length c] : Array Value).getD i undef) := ((rowIs_new w _ _).alloc _).alloc _
  have hres : (((w.alloc (.cells #[.slice a l.length c] 24)).alloc (.cells #[.slice none 0 0] 37)).alloc (.cells #[.slice none 0 0] 37)).rowIs (w.heap.size + 1) 37 1 (fun i => (#[.slice none 0 0] : Array Value).getD i undef) := by
    have := (rowIs_new (w.alloc (.cells #[.slice a l.length c] 24)) #[.slice none 0 0] 37).alloc (.cells #[.slice none 0 0] 37)
    simpa using this
  have hstr : (((w.alloc (.cells #[.slice a l.length c] 24)).alloc (.cells #[.slice none 0 0] 37)).alloc (.cells #[.slice none 0 0] 37)).rowIs (w.heap.size + 2) 37 1 (fun i => (#[.slice none 0 0] : Array Value).getD i undef) := by
    have := rowIs_new ((w.alloc (.cells #[.slice a l.length c] 24)).alloc (.cells #[.slice none 0 0] 37)) #[.slice none 0 0] 37
    simpa using this
  generalize ((w.alloc (.cells #[.slice a l.length c] 24)).alloc (.cells #[.slice none 0 0] 37)).alloc (.cells #[.slice none 0 0] 37) = w0 at hm0 hbox hres hstr ⊢
  have Hm0 := Lib.hid hm0
  have Hbox := Lib.hid hbox
  have Hres := Lib.hid hres
  have Hstr := Lib.hid hstr
  clear hm0 hbox hres hstr
  go_loopw [4] (fun i wr => ∃ (k : Nat) (ao : Option Addr) (co : Nat), k ≤ l.length ∧ i = .int .i64 k ∧ Mod NoBlock w wr ∧
      wr.rowIs w.heap.size 24 1 (fun i => (#[.slice a l.length c] : Array Value).getD i undef) ∧
      wr.rowIs (w.heap.size + 1) 37 1 (fun i => (#[.slice none 0 0] : Array Value).getD i undef) ∧
      wr.rowIs (w.heap.size + 2) 37 1 (fun i => (#[.slice ao k co] : Array Value).getD i undef) ∧ OwnCars wr (w.heap.size + 3) 68 ao co k (rx l) (fun k => List.replicate (rx l k).length 0)) (fun i _ => l.length - (intOf i).toNat)
  case atStart => exact ⟨0, none, 0, by omega, rfl, Hm0.out, Hbox.out, Hres.out, Hstr.out, OwnCars.nil _ _ _ _ _⟩
  case round =>
    clear Hm0 Hbox Hres Hstr
    obtain ⟨k, ao, co, hk, rfl, hmod, hbx, hrb, hsb, vs, hown, hvals⟩ := hrel
    obtain ⟨wo, rfl⟩ : ∃ wo : World, wo = wr := ⟨_, rfl⟩
    have c1 : wo.cell? ⟨w.heap.size + 2, 0, Option.none⟩ = some (.slice ao k co) := hsb.cell (by omega)
    have c0 : wo.cell? ⟨w.heap.size, 0, Option.none⟩ = some (.slice a l.length c) := hbx.cell (by omega)
    by_cases hkn : k < l.length
    · obtain ⟨_, b, off, ha, hcl⟩ := (HX.out.frame hmod).open
      obtain rfl := ha (by intro h; subst h; simp at hkn)
      obtain ⟨ar, cr, h1, hi⟩ := hcl k hkn
      have Hi := Lib.hid hi
      have hsbl := hsb.lt
      have hne := hown.away (b := w.heap.size + 2) (by omega)
      have hne0 := hown.away (b := w.heap.size) (by omega)
      have hne1 := hown.away (b := w.heap.size + 1) (by omega)
      have hnao : ∀ b, blockOf ao = some b → b < wo.heap.size := fun b e => (hown.lt e).2
      have Hown := Lib.hid hown
      have Hvals := Lib.hid hvals
      have Hmod := Lib.hid hmod
      have Hbx := Lib.hid hbx
      have Hrb := Lib.hid hrb
      have Hsb := Lib.hid hsb
      have h4k := H4.out k hkn
      have k0 : (0 : Int) ≤ (k : Int) := by omega
      have kl : (k : Int) < (l.length : Int) := by omega
      clear hown hvals hmod hbx hrb hsb ha hcl hi
      go_wp2
      go_region_law (first
          | (refine step_append2 (n := k) (vs := vs) (by rfl) (.tmp 13) (.tmp 20) _ (by rfl) elemCars (k + 1) 1 (.slice b1 (rx l k).length d1) (.slice b2 (rx l k).length d2) (by rfl) (by rfl) rfl ((Hown.out.mod hm1' (fun _ _ => id)).alloc _) (Src2.one _ _ _ _) ⟨rfl, rfl⟩ (by simp only [maxLen]; omega) (by omega) (by simp; omega) ?_
             intro a4 c4 w4 hown4 hgrow4 hat4
             have hb4 : w4.heap[w.heap.size + 2]? = wo.heap[w.heap.size + 2]? := ((hgrow4.block _ (by simp; omega) hne).trans (Below.heap_alloc w1 _ _ (by omega))).trans (hm1'.block _ hsbl (fun h => h))
             have hr4 := Hsb.out.of_block hb4
             have st1 : w4.cell? ⟨w.heap.size + 2, 0, Option.none⟩ = some (.slice ao k co) := hr4.cell (by omega)
             have st2 : w4.frozen? ⟨w.heap.size + 2, 0, Option.none⟩ = false := hr4.frozen 0)
          | (go_simp; go_at_call 29; refine (start_any ar cr (rx l k) D _ (by exact Hi.out) h4k).mono ?_; rintro e w1 ⟨b1, d1, b2, d2, rfl, hm1, htwo⟩
             have hm1' : Mod NoBlock wo w1 := ⟨hm1.os, hm1.tape, hm1.output, hm1.size, hm1.block⟩
             have hsz1 : wo.heap.size ≤ w1.heap.size := hm1.size
             have st0 : w1.cell? ⟨w.heap.size + 2, 0, Option.none⟩ = some (.slice ao k co) := hm1'.cell c1 (fun h => h)
             have st3 : w.heap.size + 2 < w1.heap.size := by omega))
      all_goals
        have hxy := htwo.ints (D := fun b => w.heap.size + 3 ≤ b ∧ some b ≠ blockOf ao) (fun b hb _ => ⟨by have hb2 : wo.heap.size ≤ b := hb; omega, fun e => by have := hnao b e.symm; have hb2 : wo.heap.size ≤ b := hb; omega⟩) (by simp only [maxLen]; omega) (by rw [List.length_replicate]; simp only [maxLen]; omega)
        have hm5 : Mod NoBlock w (w4.setCell ⟨w.heap.size + 1 + 1, 0, Option.none⟩ (.slice a4 (k + 1) c4)) :=
          (((Hmod.out.trans hm1').alloc _).grown hgrow4 fun b hb => .inr (by have := (Hown.out.lt hb).1; omega)).setCell (p := ⟨w.heap.size + 1 + 1, 0, Option.none⟩) (.inr (by simp; omega)) _
        have hbx5 : (w4.setCell ⟨w.heap.size + 1 + 1, 0, Option.none⟩ (.slice a4 (k + 1) c4)).rowIs w.heap.size 24 1 (fun i => (#[.slice (some ⟨b, off, none⟩) l.length c] : Array Value).getD i undef) := by
          refine World.rowIs.setOther ?_ (by show ¬ _ = w.heap.size + 1 + 1; omega) _
          exact Hbx.out.of_block (((hgrow4.block _ (by simp; omega) hne0).trans (Below.heap_alloc w1 _ _ (by omega))).trans (hm1'.block _ (by omega) (fun h => h)))
        have hrb5 : (w4.setCell ⟨w.heap.size + 1 + 1, 0, Option.none⟩ (.slice a4 (k + 1) c4)).rowIs (w.heap.size + 1) 37 1 (fun i => (#[.slice none 0 0] : Array Value).getD i undef) := by
          refine World.rowIs.setOther ?_ (by show ¬ _ = w.heap.size + 1 + 1; omega) _
          exact Hrb.out.of_block (((hgrow4.block _ (by simp; omega) hne1).trans (Below.heap_alloc w1 _ _ (by omega))).trans (hm1'.block _ (by omega) (fun h => h)))
        have hsb5 : (w4.setCell ⟨w.heap.size + 1 + 1, 0, Option.none⟩ (.slice a4 (k + 1) c4)).rowIs (w.heap.size + 2) 37 1 (fun i => (#[.slice a4 (k + 1) c4] : Array Value).getD i undef) := by
          refine (hr4.set 0 _).congr fun i hi => ?_
          obtain rfl : i = 0 := by omega
          rfl
        have hown4' : Own2 w4 (w.heap.size + 3) 68 a4 c4 (k + 1) (vs ++ [.slice b1 (rx l k).length d1, .slice b2 ((fun k => List.replicate (rx l k).length (0 : Int)) k).length d2]) := by
          show Own2 _ _ _ _ _ _ (vs ++ [_, .slice b2 (List.replicate (rx l k).length (0 : Int)).length d2])
          rw [List.length_replicate]; exact hown4
        have hrows5 : OwnCars (w4.setCell ⟨w.heap.size + 1 + 1, 0, Option.none⟩ (.slice a4 (k + 1) c4)) (w.heap.size + 3) 68 a4 c4 (k + 1) (rx l) (fun k => List.replicate (rx l k).length 0) :=
          (OwnCars.snoc (Hvals.out.mod hm1' fun _ _ _ => id) hxy.1 hxy.2 ((Mod.refl NoBlock w1).alloc _) hown4' hgrow4 hat4).mod ((Mod.refl (fun b => b = w.heap.size + 1 + 1) w4).set1 _ _) (fun b _ hb e => by omega)
        have Hm5 := Lib.hid hm5
        have Hbx5 := Lib.hid hbx5
        have Hrb5 := Lib.hid hrb5
        have Hsb5 := Lib.hid hsb5
        have Hrows5 := Lib.hid hrows5
        clear hm5 hbx5 hrb5 hsb5 hrows5 hxy hown4 hown4' hgrow4 hat4 hr4 st1 st2 hb4
        go_wp2
        exact ⟨⟨k + 1, a4, c4, by omega, by go_num, Hm5.out, Hbx5.out, Hrb5.out, Hsb5.out, Hrows5.out⟩, by simp [intOf]; omega⟩
    · have hkn2 : k = l.length := by omega
      subst hkn2
      have b0 : wo.cell? ⟨w.heap.size + 1, 0, Option.none⟩ = some (.slice none 0 0) := hrb.cell (by omega)
      have f0 : wo.frozen? ⟨w.heap.size + 1, 0, Option.none⟩ = false := hrb.frozen 0
      have Hown := Lib.hid (show OwnCars wo (w.heap.size + 3) 68 ao co l.length (rx l) (fun k => List.replicate (rx l k).length 0) from ⟨vs, hown, hvals⟩)
      have Hmod := Lib.hid hmod
      have Hrb := Lib.hid hrb
      clear hown hvals hmod hbx hrb hsb
      go_wp2
      have hm6 := Hmod.out.setCell (p := ⟨w.heap.size + 1, 0, Option.none⟩) (.inr (Nat.le_succ _)) (.slice ao l.length co)
      have hrb6 : (wo.setCell ⟨w.heap.size + 1, 0, Option.none⟩ (.slice ao l.length co)).rowIs (w.heap.size + 1) 37 1 (fun i => (#[.slice ao l.length co] : Array Value).getD i undef) := by
        refine (Hrb.out.set 0 _).congr fun i hi => ?_
        obtain rfl : i = 0 := by omega
        rfl
      have hrows6 := Hown.out.mod ((Mod.refl (fun b => b = w.heap.size + 1) wo).set1 0 (.slice ao l.length co)) (fun b _ hb e => by omega)
      generalize wo.setCell ⟨w.heap.size + 1, 0, Option.none⟩ (.slice ao l.length co) = w6 at hm6 hrb6 hrows6 ⊢
      have g0 : w6.cell? ⟨w.heap.size + 1, 0, Option.none⟩ = some (.slice ao l.length co) := hrb6.cell (by omega)
      refine bodyPost_ret (v := .agg #[.slice ao l.length co]) (by simp [results, Try.results16, go_sem, g0]) rfl ⟨ao, co, rfl, hm6, ?_⟩
      refine (OwnCars.cars (c := co) (e := 68) (B := w.heap.size + 3) hrows6 (by simp only [maxLen]; omega)).mono fun b _ hb => by have : w.heap.size + 3 ≤ b := hb; omega

end Go.Proofs.Ytgoccfjmghhaoaa
