/-
  camera: what is expected of a class.
-/
import Derived.Test.YtgoccfjmghhaoaaCr
set_option linter.unusedVariables false
set_option linter.unusedSimpArgs false
namespace Go.Proofs.Ytgoccfjmghhaoaa
open Go.RowKit

/-- The error of a prior mix, a camera and a class. -/
def expE (l : List (List Int)) (p : List Int) (cls : Int) : Int := if faultL p ≠ 0 then faultL p else if camE l p.length ≠ 0 then camE l p.length else if cls < 0 ∨ ((rx l 0).length : Int) ≤ cls then 1 else 0
def ef (l : List (List Int)) (p : List Int) (C m : Nat) : Int := ix p m * ix (rx l m) C
theorem expE_f {l : List (List Int)} {p : List Int} {cls : Int} (h : ¬ faultL p = 0) : expE l p cls = faultL p := by unfold expE; rw [if_pos h]
theorem expE_c {l : List (List Int)} {p : List Int} {cls : Int} (h : faultL p = 0) (h2 : ¬ camE l p.length = 0) : expE l p cls = camE l p.length := by unfold expE; rw [if_neg (by simpa using h), if_pos h2]
theorem expE_k {l : List (List Int)} {p : List Int} {cls : Int} (h : faultL p = 0) (h2 : camE l p.length = 0) (h3 : cls < 0 ∨ ((rx l 0).length : Int) ≤ cls) : expE l p cls = 1 := by unfold expE; rw [if_neg (by simpa using h), if_neg (by simpa using h2), if_pos h3]
theorem expE_0 {l : List (List Int)} {p : List Int} {cls : Int} (h : faultL p = 0) (h2 : camE l p.length = 0) (h3 : ¬ (cls < 0 ∨ ((rx l 0).length : Int) ≤ cls)) : expE l p cls = 0 := by unfold expE; rw [if_neg (by simpa using h), if_neg (by simpa using h2), if_neg h3]

/-- A prior mix, a camera and a class that are accepted. -/
structure ExpOk (l : List (List Int)) (p : List Int) (C : Nat) : Prop where
  f : faultL p = 0
  c : camE l p.length = 0
  k : C < (rx l 0).length
theorem ExpOk.e {l : List (List Int)} {p : List Int} {C : Nat} (h : ExpOk l p C) : expE l p C = 0 := expE_0 h.f h.c (by have := h.k; omega)
theorem expE_ok {l : List (List Int)} {p : List Int} {cls : Int} (h : expE l p cls = 0) : ∃ C : Nat, cls = C ∧ ExpOk l p C := by
  by_cases h1 : faultL p = 0
  · by_cases h2 : camE l p.length = 0
    · by_cases h3 : cls < 0 ∨ ((rx l 0).length : Int) ≤ cls
      · rw [expE_k h1 h2 h3] at h; exact absurd h (by decide)
      · exact ⟨cls.toNat, by omega, h1, h2, by omega⟩
    · rw [expE_c h1 h2] at h; exact absurd h h2
  · rw [expE_f h1] at h; exact absurd h h1
section
variable {l : List (List Int)} {p : List Int} {C : Nat}
theorem ExpOk.len (h : ExpOk l p C) : l.length = p.length ∧ 1 ≤ p.length ∧ p.length ≤ 16 := by
  obtain ⟨h1, h2, h3, _, _⟩ := cam_ok h.c
  exact ⟨by omega, by omega, by omega⟩
theorem ExpOk.row (h : ExpOk l p C) {m : Nat} (hm : m < p.length) : C < (rx l m).length ∧ 0 ≤ ix (rx l m) C ∧ ix (rx l m) C ≤ 1000 := by
  obtain ⟨h1, h2, h3, h4, h5⟩ := cam_ok h.c
  have hm' : m < l.length := by omega
  have hk := h.k
  have := h5 m hm'
  have h6 := (row_ok (h4 m hm')).2.2.1 C (by omega)
  exact ⟨by omega, h6⟩
theorem ExpOk.prior (h : ExpOk l p C) {m : Nat} (hm : m < p.length) : 0 ≤ ix p m ∧ ix p m ≤ 1073741824 := (ok_of_fault h.f).2 m hm
theorem ExpOk.ef (h : ExpOk l p C) {m : Nat} (hm : m < p.length) : 0 ≤ ef l p C m ∧ ef l p C m ≤ 1073741824000 := by
  obtain ⟨_, h1, h2⟩ := h.row hm
  obtain ⟨h3, h4⟩ := h.prior hm
  unfold Proofs.Ytgoccfjmghhaoaa.ef
  have p1 : ix p m * ix (rx l m) C ≤ 1073741824 * 1000 := Int.mul_le_mul h4 h2 h1 (by decide)
  exact ⟨Int.mul_nonneg h3 h1, p1⟩
end

set_option maxRecDepth 100000 in
set_option maxHeartbeats 1600000 in
theorem refFault_any (a : Option Addr) (c : Nat) (l : List (List Int)) (a2 : Option Addr) (c2 : Nat) (p : List Int) (cls : Int) (D D2 : Nat → Prop) (w : World) (hx : Mixes D w a l) (hp : Ints D2 w a2 p) :
    Calls Try.prog 38 #[.agg #[.slice a l.length c], .slice a2 p.length c2, .int .i64 cls] w fun e w' => e = .returned (.int .i64 (expE l p cls)) ∧ Mod NoBlock w w' := by
  have m0 := (Mod.refl NoBlock w).alloc (.cells #[.slice a l.length c] 24)
  have HX := Lib.hid (hx.frame m0)
  have HP := Lib.hid (hp.frame m0)
  have M := Lib.hid m0
  have HC := Lib.hid (cell_new w #[.slice a l.length c] 24 0 _ rfl)
  clear hx hp m0
  by_cases h1 : faultL p = 0
  · have H1 := Lib.hid h1
    by_cases h2 : camE l p.length = 0
    · obtain ⟨l1, l16, hlp, _, _⟩ := cam_ok h2
      have H2 := Lib.hid h2
      have n1 : (1 : Int) ≤ l.length := by omega
      have hE3 := Lib.hid (fun h3 => expE_k (cls := cls) h1 h2 h3)
      have hE0 := Lib.hid (fun h3 => expE_0 (cls := cls) h1 h2 h3)
      clear h1 h2 hlp
      go_enter Try.func38, Try.ntmps38
      go_wp2_with fail
      generalize w.alloc (.cells #[.slice a l.length c] 24) = w0 at HX HP M HC ⊢
      refine (fault_any _ _ _ _ _ HP.out).mono ?_
      rintro e w1 ⟨rfl, rfl⟩
      rw [H1.out]
      have hB := HC.out
      go_wp2_with fail
      refine (refCam_any _ _ _ _ _ _ HX.out).mono ?_
      rintro e w1 ⟨rfl, m1⟩
      rw [H2.out]
      replace M := Lib.hid (M.out.trans m1)
      have hB1 := m1.cell hB id
      obtain ⟨_, b, off, ha, hcl⟩ := (HX.out.frame m1).open
      obtain rfl := ha (by intro h; subst h; simp at l1)
      obtain ⟨a0, c0, hh0, hi0⟩ := hcl 0 (by omega)
      rw [Nat.add_zero] at hh0
      have hm0 := hi0.1
      unfold maxLen at hm0
      clear ha hcl hi0 m1 hB
      by_cases q : cls < 0
      · go_wp2
        go_ret
        rw [hE3.out (.inl q)]
        exact ⟨rfl, M.out⟩
      · by_cases q2 : ((rx l 0).length : Int) ≤ cls
        · go_wp2
          go_ret
          rw [hE3.out (.inr q2)]
          exact ⟨rfl, M.out⟩
        · go_wp2
          go_ret
          rw [hE0.out (by omega)]
          exact ⟨rfl, M.out⟩
    · rw [expE_c h1 h2]
      have hne : (camE l p.length != 0) = true := by simpa using h2
      clear h1 h2
      go_enter Try.func38, Try.ntmps38
      go_wp2_with fail
      generalize w.alloc (.cells #[.slice a l.length c] 24) = w0 at HX HP M HC ⊢
      refine (fault_any _ _ _ _ _ HP.out).mono ?_
      rintro e w1 ⟨rfl, rfl⟩
      rw [H1.out]
      have hB := HC.out
      go_wp2_with fail
      refine (refCam_any _ _ _ _ _ _ HX.out).mono ?_
      rintro e w1 ⟨rfl, m1⟩
      replace M := Lib.hid (M.out.trans m1)
      clear m1 hB
      go_wp2
      go_ret
      exact ⟨rfl, M.out⟩
  · rw [expE_f h1]
    have hne : (faultL p != 0) = true := by simpa using h1
    clear h1
    go_enter Try.func38, Try.ntmps38
    go_wp2_with fail
    generalize w.alloc (.cells #[.slice a l.length c] 24) = w0 at HX HP M HC ⊢
    refine (fault_any _ _ _ _ _ HP.out).mono ?_
    rintro e w1 ⟨rfl, rfl⟩
    go_wp2
    go_ret
    exact ⟨rfl, M.out⟩

set_option maxRecDepth 100000 in
set_option maxHeartbeats 3200000 in
theorem exp_bad (a : Option Addr) (c : Nat) (l : List (List Int)) (a2 : Option Addr) (c2 : Nat) (p : List Int) (cls : Int) (D D2 : Nat → Prop) (w : World) (hx : Mixes D w a l) (hp : Ints D2 w a2 p) (hbad : ¬ expE l p cls = 0) :
    Calls Try.prog 35 #[.agg #[.slice a l.length c], .slice a2 p.length c2, .int .i64 cls] w fun e w' => e = .returned (.tuple #[.slice none 0 0, .int .i64 (expE l p cls)]) ∧ Mod NoBlock w w' := by
  have m0 := (Mod.refl NoBlock w).alloc (.cells #[.slice a l.length c] 24)
  have HX := Lib.hid (hx.frame m0)
  have HP := Lib.hid (hp.frame m0)
  have M := Lib.hid m0
  have HC := Lib.hid (cell_new w #[.slice a l.length c] 24 0 _ rfl)
  clear hx hp m0
  by_cases h1 : faultL p = 0
  · have Ht := Lib.hid (totL_ok h1)
    by_cases h2 : camE l p.length = 0
    · obtain ⟨l1, l16, hlp, _, _⟩ := cam_ok h2
      have h3 : cls < 0 ∨ (¬ cls < 0 ∧ ((rx l 0).length : Int) ≤ cls) := by
        by_cases h3 : cls < 0 ∨ ((rx l 0).length : Int) ≤ cls
        · omega
        · exact absurd (expE_0 h1 h2 h3) hbad
      rw [expE_k h1 h2 (by omega)]
      have H2 := Lib.hid h2
      have n1 : (1 : Int) ≤ l.length := by omega
      clear h1 h2 hbad hlp
      rcases h3 with q | ⟨q, q2⟩
      all_goals
        go_enter Try.func35, Try.ntmps35
        go_wp2_with fail
        generalize w.alloc (.cells #[.slice a l.length c] 24) = w0 at HX HP M HC ⊢
        refine (matTotal_any _ _ _ _ _ HP.out).mono ?_
        rw [Ht.out]
        rintro e w1 ⟨rfl, m1⟩
        replace M := Lib.hid (M.out.trans m1)
        replace HX := Lib.hid (HX.out.frame m1)
        have hB := m1.cell HC.out id
        clear m1
        go_wp2_with fail
        refine (camCheck_any _ _ _ _ _ _ HX.out).mono ?_
        rintro e w1 ⟨rfl, m1⟩
        rw [H2.out]
        replace M := Lib.hid (M.out.trans m1)
        have hB1 := m1.cell hB id
        obtain ⟨_, b, off, ha, hcl⟩ := (HX.out.frame m1).open
        obtain rfl := ha (by intro h; subst h; simp at l1)
        obtain ⟨a0, c0, hh0, hi0⟩ := hcl 0 (by omega)
        rw [Nat.add_zero] at hh0
        have hm0 := hi0.1
        unfold maxLen at hm0
        clear ha hcl hi0 m1 hB
        go_wp2
        go_ret2
        exact ⟨rfl, M.out⟩
    · rw [expE_c h1 h2]
      have hne : (camE l p.length != 0) = true := by simpa using h2
      clear h1 h2 hbad
      go_enter Try.func35, Try.ntmps35
      go_wp2_with fail
      generalize w.alloc (.cells #[.slice a l.length c] 24) = w0 at HX HP M HC ⊢
      refine (matTotal_any _ _ _ _ _ HP.out).mono ?_
      rw [Ht.out]
      rintro e w1 ⟨rfl, m1⟩
      replace M := Lib.hid (M.out.trans m1)
      replace HX := Lib.hid (HX.out.frame m1)
      have hB := m1.cell HC.out id
      clear m1
      go_wp2_with fail
      refine (camCheck_any _ _ _ _ _ _ HX.out).mono ?_
      rintro e w1 ⟨rfl, m1⟩
      replace M := Lib.hid (M.out.trans m1)
      clear m1 hB
      go_wp2
      go_ret2
      exact ⟨rfl, M.out⟩
  · rw [expE_f h1]
    have Ht := Lib.hid (totL_bad h1)
    have hne : (faultL p != 0) = true := by simpa using h1
    clear h1 hbad
    go_enter Try.func35, Try.ntmps35
    go_wp2_with fail
    generalize w.alloc (.cells #[.slice a l.length c] 24) = w0 at HX HP M HC ⊢
    refine (matTotal_any _ _ _ _ _ HP.out).mono ?_
    rw [Ht.out]
    rintro e w1 ⟨rfl, m1⟩
    replace M := Lib.hid (M.out.trans m1)
    clear m1
    go_wp2
    go_ret2
    exact ⟨rfl, M.out⟩

set_option maxRecDepth 100000 in
set_option maxHeartbeats 3200000 in
theorem exp_ok (a : Option Addr) (c : Nat) (l : List (List Int)) (a2 : Option Addr) (c2 : Nat) (p : List Int) (C : Nat) (D D2 : Nat → Prop) (w : World) (hx : Mixes D w a l) (hp : Ints D2 w a2 p) (hok : ExpOk l p C) :
    Calls Try.prog 35 #[.agg #[.slice a l.length c], .slice a2 p.length c2, .int .i64 C] w fun e w' => ∃ g, e = .returned (.tuple #[.slice (some ⟨g, 0, none⟩) p.length p.length, .int .i64 0]) ∧ Mod NoBlock w w' ∧ w'.rowIs g 3 p.length (fun m => .int .i64 (ef l p C m)) := by
  have m0 := (Mod.refl NoBlock w).alloc (.cells #[.slice a l.length c] 24)
  have HX := Lib.hid (hx.frame m0)
  have HP := Lib.hid (hp.frame m0)
  have M := Lib.hid m0
  have HC := Lib.hid (cell_new w #[.slice a l.length c] 24 0 _ rfl)
  have OK := Lib.hid hok
  obtain ⟨hlp, p1, p16⟩ := hok.len
  have Hlp := Lib.hid hlp
  clear hlp
  have hk := hok.k
  have Ht := Lib.hid (totL_ok hok.f)
  have Hcam := Lib.hid hok.c
  have hmk := run_make_row' (P := Try.prog) 41 3 (.int .i64 0) 8 Try.underlying41 infoIntsC rfl .i64 .i64 p.length (by omega) (by omega)
  have n1 : (1 : Int) ≤ p.length := by omega
  have n1l : (1 : Int) ≤ l.length := by have := Hlp.out; omega
  have n16 : (p.length : Int) ≤ 16 := by omega
  have hkI : (C : Int) < (rx l 0).length := by omega
  have hc0 : (0 : Int) ≤ C := by omega
  clear hx hp m0 hok
  go_enter Try.func35, Try.ntmps35
  go_wp2_with fail
  generalize w.alloc (.cells #[.slice a l.length c] 24) = w0 at HX HP M HC ⊢
  refine (matTotal_any _ _ _ _ _ HP.out).mono ?_
  rw [Ht.out]
  rintro e w1 ⟨rfl, m1⟩
  replace M := Lib.hid (M.out.trans m1)
  replace HX := Lib.hid (HX.out.frame m1)
  replace HP := Lib.hid (HP.out.frame m1)
  have hB := m1.cell HC.out id
  clear m1 HC
  go_wp2_with fail
  refine (camCheck_any _ _ _ _ _ _ HX.out).mono ?_
  rintro e w2 ⟨rfl, m1⟩
  rw [Hcam.out]
  replace M := Lib.hid (M.out.trans m1)
  replace HX := Lib.hid (HX.out.frame m1)
  replace HP := Lib.hid (HP.out.frame m1)
  have hB1 := m1.cell hB id
  obtain ⟨_, b, off, ha, hcl⟩ := HX.out.open
  obtain rfl := ha (by intro h; have e := Hlp.out; rw [h] at e; simp at e; omega)
  obtain ⟨a0, c0, hh0, hi0⟩ := hcl 0 (by have := Hlp.out; omega)
  rw [Nat.add_zero] at hh0
  have hm0 := hi0.1
  unfold maxLen at hm0
  clear ha hcl hi0 m1 hB
  go_wp2
  have Hrow0 := Lib.hid (World.rowIs_made w2 (.int .i64 0) p.length 3)
  have hB2 : (w2.alloc (.cells (madeCells #[.int .i64 0] p.length) 3)).cell? ⟨w.heap.size, 0, none⟩ = some (.slice (some ⟨b, off, none⟩) l.length c) := ((Mod.refl NoBlock w2).alloc _).cell hB1 id
  have HB2 := Lib.hid hB2
  have hbl : w.heap.size < w2.heap.size := World.block_lt_of_cell? _ _ hB1
  clear hB1 hh0 hm0 hB2
  go_loopw [12, 13, 45] (fun u v i wr => ∃ (k : Nat) (f : Nat → Value), k ≤ p.length ∧ i = .int .i64 k ∧ Mod NoBlock w2 wr ∧ wr.rowIs w2.heap.size 3 p.length f ∧ wr.cell? ⟨w.heap.size, 0, none⟩ = some (.slice (some ⟨b, off, none⟩) l.length c) ∧ ∀ j, j < k → f j = .int .i64 (ef l p C j)) (fun _ _ i _ => p.length - (intOf i).toNat)
  case atStart => exact ⟨0, _, by omega, rfl, (Mod.refl _ _).alloc _, Hrow0.out, HB2.out, fun j hj => absurd hj (by omega)⟩
  case round =>
    clear HB2 Hrow0
    obtain ⟨k, f, hk', rfl, hm, hrow, hbox, hf⟩ := hrel
    obtain ⟨wo, rfl⟩ : ∃ wo : World, wo = wr := ⟨_, rfl⟩
    have Mr := Lib.hid hm
    have Hrow := Lib.hid hrow
    have F := Lib.hid hf
    clear hm hrow hf
    by_cases hlt : k < p.length
    · obtain ⟨hr1, r0, r1⟩ := OK.out.row hlt
      obtain ⟨x0, x1⟩ := OK.out.prior hlt
      obtain ⟨y0, y1⟩ := OK.out.ef hlt
      have HF := Lib.hid (show ix p k * ix (rx l k) C = ef l p C k from rfl)
      obtain ⟨_, bp, op, hap, hcp⟩ := (HP.out.frame Mr.out).open
      have h1 := hcp k hlt
      obtain rfl := hap (by intro e; subst e; simp at hlt)
      obtain ⟨_, b', off', ha', hcl'⟩ := (HX.out.frame Mr.out).open
      have ha' := ha' (by intro h; have e := Hlp.out; rw [h] at e; simp at e; omega)
      simp only [Option.some.injEq, Addr.mk.injEq, and_true] at ha'
      obtain ⟨rfl, rfl⟩ := ha'
      obtain ⟨a', c', h2, hi⟩ := hcl' k (by have := Hlp.out; omega)
      obtain ⟨hmr, br, or, har, hcr⟩ := hi.open
      have h3 := hcr C hr1
      obtain rfl := har (by intro e; rw [e] at hr1; simp at hr1)
      have hst := Hrow.out.cell hlt
      have hfz := Hrow.out.frozen k
      have kI : (k : Int) < (p.length : Int) := by omega
      have kl : (k : Int) < (l.length : Int) := by have := Hlp.out; omega
      have k0 : (0 : Int) ≤ (k : Int) := by omega
      have cI : (C : Int) < ((rx l k).length : Int) := by omega
      clear hcp hap hcl' hi hcr har
      rw [← HF.out] at y0 y1
      generalize hgx : ix p k = x at h1 x0 x1 y0 y1 HF
      generalize hgy : ix (rx l k) C = y at h3 r0 r1 y0 y1 HF
      clear hgx hgy
      have e6 : IntKind.i64.wrap (x * y) = x * y := IntWalk.i64_in _ (by omega)
      go_wp2
      refine ⟨⟨k + 1, _, by omega, by go_num, Mr.out.setCell (p := ⟨w2.heap.size, k, Option.none⟩) (.inr (Nat.le_refl _)) _, Hrow.out.set k _, ((Mod.refl (fun b => b = w2.heap.size) wo).set1 k _).cell hbox (by show ¬ w.heap.size = w2.heap.size; have := M.out.size; have := hbl; omega), fun j hj => ?_⟩, by simp [intOf]; omega⟩
      show (if j = k then _ else f j) = _
      by_cases hj2 : j = k
      · subst hj2; rw [if_pos rfl, HF.out]
      · rw [if_neg hj2]; exact F.out j (by omega)
    · have hkp : k = p.length := by omega
      clear hbox
      go_wp2
      go_ret2
      exact ⟨_, rfl, M.out.trans Mr.out, Hrow.out.congr fun j hj => F.out j (by omega)⟩

end Go.Proofs.Ytgoccfjmghhaoaa
