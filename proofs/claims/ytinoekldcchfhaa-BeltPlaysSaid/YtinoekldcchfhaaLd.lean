/-
  The law BeltOwns.
-/
import Derived.Test.YtinoekldcchfhaaLc
set_option linter.unusedVariables false
set_option linter.unusedSimpArgs false
namespace Go.Proofs.Ytinoekldcchfhaa
open Go.RowKit

theorem total_first {n m : Nat} {xs : List Int} (hx : xs.length = m) : totalL m (xs :: (noughts n m).dropLast) = xs := by
  refine ext_ix (by rw [totalL_length, hx]) fun k hk => ?_
  rw [totalL_length] at hk
  rw [ix_totalL _ hk]
  have e : colSum ((noughts n m).dropLast) k = 0 := by
    have : ∀ l : List (List Int), (∀ r ∈ l, r = List.replicate m 0) → colSum l k = 0 := by
      intro l
      induction l with
      | nil => intro _; rfl
      | cons r l ih =>
        intro h
        have e1 := ih fun x hx => h x (List.mem_cons_of_mem _ hx)
        have e2 := h r List.mem_cons_self
        have e3 : colSum (r :: l) k = ix r k + colSum l k := by simp [colSum]
        rw [e3, e1, e2, ix_replicate hk]; rfl
    refine this _ fun r hr => ?_
    have := List.dropLast_subset _ hr
    exact (List.mem_replicate.1 this).2
  have e2 : colSum (xs :: (noughts n m).dropLast) k = ix xs k + colSum ((noughts n m).dropLast) k := by simp [colSum]
  rw [e2, e, Int.add_zero]

set_option maxRecDepth 100000 in
set_option maxHeartbeats 400000 in
theorem beltOwns_size (n m mark : Int) (a : Option Addr) (c : Nat) (xs : List Int) (w : World) (h : 16 < xs.length ∨ xs.length = 0) :
    Calls Try.prog 6 #[.int .i64 n, .int .i64 m, .slice a xs.length c, .int .i64 mark] w fun e w' => e = .returned (.bool true) ∧ Mod NoBlock w w' := by
  by_cases h1 : 16 < xs.length
  · clear h
    go_enter Try.func6, Try.ntmps6
    go_wp2_with (go_at_call 17; refine (awake_any _).mono ?_; rintro e w9 ⟨rfl, hmc⟩)
    go_ret
    exact ⟨rfl, hmc⟩
  · have h2 : xs.length = 0 := by omega
    clear h h1
    generalize xs.length = q at h2
    subst h2
    go_enter Try.func6, Try.ntmps6
    go_wp2_with (go_at_call 17; refine (awake_any _).mono ?_; rintro e w9 ⟨rfl, hmc⟩)
    go_ret
    exact ⟨rfl, hmc⟩

set_option maxRecDepth 100000 in
set_option maxHeartbeats 400000 in
theorem beltOwns_bad (n m mark : Int) (a : Option Addr) (c : Nat) (xs : List Int) (w : World) (h0 : ¬ xs.length = 0) (h16 : xs.length ≤ 16) (h : n < 1 ∨ 16 < n ∨ m < 1 ∨ 16 < m) :
    Calls Try.prog 6 #[.int .i64 n, .int .i64 m, .slice a xs.length c, .int .i64 mark] w fun e w' => e = .returned (.bool true) ∧ Mod NoBlock w w' := by
  have h' := Lib.hid h
  clear h
  have hd : decide (16 < (xs.length : Int)) = false := by simp; omega
  have hd2 : ((xs.length : Int) == 0) = false := by rw [beq_eq_false_iff_ne]; omega
  go_enter Try.func6, Try.ntmps6
  go_wp2_with fail
  refine (beltNew_bad n m _ h'.out).mono ?_
  rintro e w1 ⟨rfl, rfl⟩
  go_wp2_with (go_at_call 17; refine (awake_any _).mono ?_; rintro e w9 ⟨rfl, hmc⟩)
  go_ret
  exact ⟨rfl, hmc⟩

theorem Own.intsAt {w : World} {B e c g : Nat} {xs : List Int} (h : Own w B e (some ⟨g, 0, Option.none⟩) c (xs.map (Value.int .i64))) (hl : xs.length ≤ maxLen) (hx : xs ≠ []) : Ints (fun b => b = g) w (some ⟨g, 0, Option.none⟩) xs := by
  obtain ⟨g', e', _, _, hc, hf⟩ := h.head (by simpa using hx)
  injection e' with e'; injection e' with e'
  subst e'
  refine ⟨hl, fun _ => ⟨g, 0, rfl, rfl, fun k hk => ⟨?_, by rw [Nat.zero_add]; exact hf k⟩⟩⟩
  rw [Nat.zero_add]
  exact hc k _ (by rw [List.getElem?_map, List.getElem?_eq_getElem hk, ix_eq hk]; rfl)

set_option maxRecDepth 100000 in
set_option maxHeartbeats 1600000 in
theorem beltOwns_ok (n m : Nat) (mark : Int) (a : Option Addr) (c : Nat) (xs : List Int) (w : World) (hx : Ints Any w a xs) (h0 : ¬ xs.length = 0) (h16 : xs.length ≤ 16) (hn : 1 ≤ n) (hn2 : n ≤ 16) (hm : 1 ≤ m) (hm2 : m ≤ 16) :
    Calls Try.prog 6 #[.int .i64 n, .int .i64 m, .slice a xs.length c, .int .i64 mark] w fun e w' => e = .returned (.bool true) ∧ Mod NoBlock w w' := by
  have hd : decide (16 < (xs.length : Int)) = false := by simp; omega
  have hd2 : ((xs.length : Int) == 0) = false := by rw [beq_eq_false_iff_ne]; omega
  have Hx := Lib.hid hx
  clear hx
  go_enter Try.func6, Try.ntmps6
  go_wp2_with fail
  refine (beltNew_ok n m _ hn hn2 hm hm2).mono ?_
  rintro e w1 ⟨rfl, hm1, hb1⟩
  have Hb1 := Lib.hid hb1
  have Hm1 := Lib.hid hm1
  clear hb1 hm1
  go_wp2_with (at_builtin; refine wpList_append1 (vs := []) rfl (.tmp 46) (.tmp 47) _ rfl elemMix 0 xs.length xs.length c (xs.map (Value.int .i64)) rfl rfl rfl (by simp) (by omega) (Own.nil w1 w1.heap.size _) (Src.ints (Hx.out.frame Hm1.out)) (by simp [Value.oneCell']) (by simp only [maxLen]; omega) (by omega) (Nat.le_refl _) ?_; intro a2 c2 w2 hown hg hat)
  have hown' : Own w2 w1.heap.size _ a2 c2 (xs.map (Value.int .i64)) := hown
  obtain ⟨go, rfl, hgo1, hgo2, hcell, hfr⟩ := hown'.head (by intro e; simp at e; subst e; exact h0 rfl)
  have hn12 : Mod NoBlock w1 w2 := (Mod.refl NoBlock w1).grown hg (fun k hk => by cases hk)
  have Hm2 := Lib.hid (Hm1.out.trans hn12)
  have hlt1 := Hb1.out.lt
  have Hb2 := Lib.hid (((Hb1.out.mono (D' := fun b => b ≠ w.heap.size ∧ b ≠ go) (fun b h1 h2 => ⟨by omega, by omega⟩) (fun h => h.1 rfl))).kept hn12)
  have c0 : w2.cell? ⟨go, 0, Option.none⟩ = some (.int .i64 (ix xs 0)) := hcell 0 _ (by rw [List.getElem?_map, List.getElem?_eq_getElem (by omega)]; simp [ix_eq (show 0 < xs.length by omega)])
  have f0 := hfr 0
  have Hown := Lib.hid (hown'.intsAt (by simp only [maxLen]; omega) (by intro e; subst e; exact h0 rfl))
  clear hown hown' hg hat hcell hfr Hb1 Hm1 hn12
  have hgb : go ≠ w.heap.size := by omega
  by_cases hv : validL xs m = true
  · have hl := valid_len hv
    subst hl
    refine (step_ok _ (fun b => b = go) _ _ _ _ c2 xs w2 Hb2.out Hown.out (fun b h => by omega) hv).mono ?_
    rintro e w3 ⟨a3, c3, rfl, hm3, hx3, hb3⟩
    have Hm3 := Lib.hid (Hm2.out.step hm3 (fun i hi e => by omega))
    have c0' := hm3.cell c0 hgb
    have f0' := (hm3.frozen (p := ⟨go, 0, Option.none⟩) hgo2 hgb).trans f0
    have Hb3 := Lib.hid hb3
    clear hm3 hx3 hb3 Hm2 Hb2 Hown c0 f0
    go_wp2_with fail
    have hm4 : Mod (fun b => b = go) w3 (w3.setCell ⟨go, 0, Option.none⟩ (.int .i64 mark)) := (Mod.refl _ _).set1 _ _
    generalize w3.setCell ⟨go, 0, Option.none⟩ (.int .i64 mark) = w4 at hm4 ⊢
    have Hm4 := Lib.hid (Hm3.out.step hm4 (fun i hi e => by omega))
    have Hb4 := Lib.hid ((Hb3.out.mod hm4 (fun h => hgb h.symm) (fun b _ h e => by omega)).mono (D' := fun b => b ≠ w.heap.size ∧ b < w4.heap.size) (fun b h1 h2 => ⟨by omega, h1⟩) (fun h => h.1 rfl))
    have Hb4w := Hb4.out.lt
    clear hm4 Hm3 Hb3 c0' f0'
    refine (slotsList_any _ _ _ _ _ Hb4.out).mono ?_
    rintro e w5 ⟨a5, c5, rfl, hm5, hs5⟩
    rw [List.length_cons, List.length_dropLast, noughts_length, Nat.sub_add_cancel hn]
    obtain ⟨bs, os, as1, cs1, rfl, hs1, hs2⟩ := hs5.head (by simp)
    rw [rx_cons_zero] at hs1 hs2
    have h45 := hm5.size
    have Hb5 := Lib.hid (Hb4.out.kept hm5)
    have Hm5 := Lib.hid (Hm4.out.trans hm5)
    have Hs2 := Lib.hid hs2
    clear hm5 hs5 hs2 Hb4 Hm4
    have hcn : (¬ ((n : Int) = n)) = False := by simp
    go_wp2_with fail
    refine (same_eq as1 a cs1 c xs.length xs rfl Hs2.out (Hx.out.frame Hm5.out)).mono ?_
    rintro e w6 ⟨rfl, hm6⟩
    obtain ⟨gs, og, rfl, hgs1, hgs2, cs, fs⟩ := (Hs2.out.frame hm6).head (by intro e; subst e; exact h0 rfl)
    have hs1' := hm6.cell hs1 (fun h => h)
    have h56 := hm6.size
    have Hb6 := Lib.hid (Hb5.out.kept hm6)
    have Hm6 := Lib.hid (Hm5.out.trans hm6)
    have hgbs : gs ≠ w.heap.size := by omega
    clear hs1 hm6 Hs2 Hb5 Hm5
    go_wp2_with fail
    have hm7 : Mod (fun b => b = gs) w6 (w6.setCell ⟨gs, og, Option.none⟩ (.int .i64 mark)) := (Mod.refl _ _).set1 _ _
    generalize w6.setCell ⟨gs, og, Option.none⟩ (.int .i64 mark) = w7 at hm7 ⊢
    have h67 := hm7.size
    have Hm7 := Lib.hid (Hm6.out.step hm7 (fun i hi e => by omega))
    have Hb7 := Lib.hid (Hb6.out.mod hm7 (fun h => hgbs h.symm) (fun b _ h e => by omega))
    clear hm7 Hm6 Hb6 cs fs hs1'
    refine (beltTotal_any _ _ _ _ _ Hb7.out).mono ?_
    rintro e w8 ⟨a8, rfl, hm8, hx8⟩
    rw [total_first rfl] at hx8
    obtain ⟨gt, ot, rfl, hgt1, hgt2, ct, ft⟩ := hx8.head (by intro e; subst e; exact h0 rfl)
    have Hm8 := Lib.hid (Hm7.out.trans hm8)
    have Hb8 := Lib.hid (Hb7.out.kept hm8)
    have Hx8 := Lib.hid hx8
    clear hx8 hm8 Hm7 Hb7
    go_wp2_with fail
    refine (same_eq _ a _ c xs.length xs rfl Hx8.out (Hx.out.frame Hm8.out)).mono ?_
    rintro e w9 ⟨rfl, hm9⟩
    have ct' := hm9.cell ct (fun h => h)
    have ft' := (hm9.frozen (p := ⟨gt, ot, Option.none⟩) hgt2 (fun h => h)).trans ft
    have Hm9 := Lib.hid (Hm8.out.trans hm9)
    have Hb9 := Lib.hid (Hb8.out.kept hm9)
    have hgbt : gt ≠ w.heap.size := by omega
    clear ct ft Hx8 hm9 Hm8 Hb8
    go_wp2_with fail
    have hma : Mod (fun b => b = gt) w9 (w9.setCell ⟨gt, ot, Option.none⟩ (.int .i64 mark)) := (Mod.refl _ _).set1 _ _
    generalize w9.setCell ⟨gt, ot, Option.none⟩ (.int .i64 mark) = wa at hma ⊢
    have Hma := Lib.hid (Hm9.out.step hma (fun i hi e => by omega))
    have Hba := Lib.hid (Hb9.out.mod hma (fun h => hgbt h.symm) (fun b _ h e => by omega))
    clear hma Hm9 Hb9 ct' ft'
    refine (slotsList_any _ _ _ _ _ Hba.out).mono ?_
    rintro e wb ⟨ab, cb, rfl, hmb, hsb⟩
    rw [List.length_cons, List.length_dropLast, noughts_length, Nat.sub_add_cancel hn]
    obtain ⟨bu, ou, au1, cu1, rfl, hu1, hu2⟩ := hsb.head (by simp)
    rw [rx_cons_zero] at hu1 hu2
    have Hbb := Lib.hid (Hba.out.kept hmb)
    have Hmb := Lib.hid (Hma.out.trans hmb)
    have Hu2 := Lib.hid hu2
    clear hmb hsb hu2 Hba Hma
    go_wp2_with fail
    refine (same_eq _ a _ c xs.length xs rfl Hu2.out (Hx.out.frame Hmb.out)).mono ?_
    rintro e wc ⟨rfl, hmc⟩
    have Hbc := Lib.hid (Hbb.out.kept hmc)
    have Hmc := Lib.hid (Hmb.out.trans hmc)
    clear hmc hu1 Hu2 Hbb Hmb
    go_wp2_with fail
    refine (beltClear_any _ _ _ _ _ Hbc.out).mono ?_
    rintro e wd ⟨ad, rfl, hmd, hxd, _⟩
    rw [total_first rfl] at hxd
    have Hmd := Lib.hid (Hmc.out.step hmd (fun i hi e => by omega))
    have Hxd := Lib.hid hxd
    clear hmd hxd Hbc Hmc
    go_wp2_with fail
    refine (same_eq _ a _ c xs.length xs rfl Hxd.out (Hx.out.frame Hmd.out)).mono ?_
    rintro e we ⟨rfl, hme⟩
    have Hme := Lib.hid (Hmd.out.trans hme)
    clear hme Hmd
    go_wp2_with fail
    refine (awake_any _).mono ?_
    rintro e wf ⟨rfl, hmf⟩
    have Hmf := Lib.hid (Hme.out.trans hmf)
    clear hmf
    go_wp2
    go_ret
    exact ⟨rfl, Hmf.out⟩
  · refine (step_bad _ (fun b => b = go) _ _ _ _ c2 xs w2 Hb2.out Hown.out (by simpa using hv)).mono ?_
    rintro e w3 ⟨rfl, hm3⟩
    have Hm3 := Lib.hid (Hm2.out.trans hm3)
    clear hm3 Hm2 Hb2 Hown c0 f0
    go_wp2_with fail
    refine (awake_any _).mono ?_
    rintro e wf ⟨rfl, hmf⟩
    have Hmf := Lib.hid (Hm3.out.trans hmf)
    clear hmf
    go_wp2
    go_ret
    exact ⟨rfl, Hmf.out⟩

theorem beltOwns_fin {w : World} {P : Int → Prop} (n : Int) (_ : I64 n) (m : Int) (_ : I64 m) (a : Option Addr) (c : Nat) (xs : List Int) (hx : Ints Any w a xs) (_ : xs.length ≤ c) (_ : ∀ x ∈ xs, P x) (mark : Int) (_ : I64 mark) (_ : World) :
    Calls Try.prog 6 #[.int .i64 n, .int .i64 m, .slice a xs.length c, .int .i64 mark] w fun e w' => e = .returned (.bool true) ∧ Mod NoBlock w w' := by
  by_cases h1 : 16 < xs.length ∨ xs.length = 0
  · exact beltOwns_size n m mark a c xs w h1
  by_cases h : n < 1 ∨ 16 < n ∨ m < 1 ∨ 16 < m
  · exact beltOwns_bad n m mark a c xs w (by omega) (by omega) h
  · obtain ⟨n', rfl⟩ : ∃ k : Nat, n = k := ⟨n.toNat, by omega⟩
    obtain ⟨m', rfl⟩ : ∃ k : Nat, m = k := ⟨m.toNat, by omega⟩
    exact beltOwns_ok n' m' mark a c xs w hx (by omega) (by omega) (by omega) (by omega) (by omega) (by omega)

end Go.Proofs.Ytinoekldcchfhaa
