/-
  material.Check; the reference's Check.
-/
import Derived.Test.YtghciackhkimoaaVmr
import Derived.Test.YtghciackhkimoaaMats
set_option linter.unusedVariables false
set_option linter.unusedSimpArgs false
namespace Go.Proofs.Ytghciackhkimoaa
open Go.RowKit

set_option maxHeartbeats 400000 in
theorem sameName_any (g : Nat) (x y : ByteArray) (d : Int) (w : World) (hg : w.cell? ⟨g, 0, Option.none⟩ = some (.string x)) :
    Calls Try.prog 33 #[.agg #[.string y, .int .i64 d], .pointer (some ⟨g, 0, Option.none⟩)] w fun e w' => e = .returned (.bool (eqS x y)) ∧ Mod NoBlock w w' := by
  have hlt := World.block_lt_of_cell? _ _ hg
  have hne : g ≠ w.heap.size := by have : g < w.heap.size := hlt; omega
  go_enter Try.func33, Try.ntmps33
  go_wp2
  go_ret
  exact ⟨rfl, (Mod.refl _ _).alloc _⟩

/-- The name of the captured material stays where it is. -/
theorem eqIndex_any (g : Nat) (x : ByteArray) (a : Option Addr) (c : Nat) (l : List (ByteArray × Int)) (D : Nat → Prop) (w : World) (hx : Mats D w a l) (hg : w.cell? ⟨g, 0, Option.none⟩ = some (.string x)) :
    Calls Try.prog 43 #[.slice a l.length c, .func (.func 33) #[] #[.pointer (some ⟨g, 0, Option.none⟩)]] w fun e w' => e = .returned (.int .i64 (eqAt x l 0)) ∧ Mod NoBlock w w' := by
  obtain ⟨lx, b, o, ha, hc⟩ := hx.open
  have Ha := Lib.hid ha
  have Hc := Lib.hid hc
  have Hg := Lib.hid hg
  clear hx ha hc hg
  go_enter Try.func43, Try.ntmps43
  go_wp2
  go_loopw [8] (fun i wr => ∃ k : Nat, k ≤ l.length ∧ i = .int .i64 k ∧ eqAt x (l.drop k) k = eqAt x l 0 ∧ Mod NoBlock w wr) (fun i _ => l.length - (intOf i).toNat)
  case atStart => exact ⟨0, by omega, rfl, rfl, Mod.refl _ _⟩
  case round =>
    obtain ⟨k, hk, rfl, hr, hm⟩ := hrel
    have Hr := Lib.hid hr
    have Hm := Lib.hid hm
    clear hr hm
    by_cases hlt : k < l.length
    · have h1 := Hm.out.cell (Hc.out k hlt).1 (fun h => h)
      have h2 := Hm.out.cell (Hc.out k hlt).2 (fun h => h)
      have hg2 := Hm.out.cell Hg.out (fun h => h)
      obtain rfl := Ha.out (by intro h; simp [h] at hlt)
      have e := Lib.hid (show eqAt x (l.drop k) k = if eqS x (mx l k).1 then (k : Int) else eqAt x (l.drop (k + 1)) (k + 1) by rw [drop_mx hlt]; rfl)
      have Hcall := Lib.hid (sameName_any g x (mx l k).1 (mx l k).2 wr hg2)
      clear hg2
      generalize (mx l k).1 = nm at *
      generalize (mx l k).2 = dn at *
      cases hb : eqS x nm
      · have Hb := Lib.hid hb
        clear hb
        go_wp2_with (go_at_call 33; refine Hcall.out.mono ?_; rintro e w' ⟨rfl, hm2⟩; rw [Hb.out]; have Hm2 := Lib.hid hm2; clear hm2)
        exact ⟨⟨k + 1, by omega, by go_num, by rw [← Hr.out, e.out, Hb.out]; simp, Hm.out.trans Hm2.out⟩, by simp [intOf]; omega⟩
      · have Hb := Lib.hid hb
        clear hb
        go_wp2_with (go_at_call 33; refine Hcall.out.mono ?_; rintro e w' ⟨rfl, hm2⟩; rw [Hb.out]; have Hm2 := Lib.hid hm2; clear hm2)
        go_ret
        exact ⟨ret_int (by rw [← Hr.out, e.out, Hb.out]; simp), Hm.out.trans Hm2.out⟩
    · go_wp2
      go_ret
      exact ⟨ret_int (by rw [← Hr.out, List.drop_eq_nil_of_le (by omega)]; rfl), Hm.out⟩

set_option maxHeartbeats 400000 in
theorem eqContains_any (g : Nat) (x : ByteArray) (a : Option Addr) (n c : Nat) (l : List (ByteArray × Int)) (D : Nat → Prop) (w : World) (hn : l.length = n) (hx : Mats D w a l) (hg : w.cell? ⟨g, 0, Option.none⟩ = some (.string x)) :
    Calls Try.prog 32 #[.slice a n c, .func (.func 33) #[] #[.pointer (some ⟨g, 0, Option.none⟩)]] w fun e w' => e = .returned (.bool (l.any fun y => eqS x y.1)) ∧ Mod NoBlock w w' := by
  subst hn
  have H := Lib.hid (eqIndex_any g x a c l D w hx hg)
  clear hx hg
  rcases eqAt_bound x l 0 (by omega) with ⟨h1, h2⟩ | ⟨h1, h2⟩
  · rw [h1] at H
    have h2' := Lib.hid h2
    clear h1 h2
    go_enter Try.func32, Try.ntmps32
    go_wp2_with (go_at_call 43; refine H.out.mono ?_; rintro e w' ⟨rfl, hm2⟩; have Hm2 := Lib.hid hm2; clear hm2)
    go_ret
    exact ⟨ret_bool h2'.out.symm, Hm2.out⟩
  · have h2' := Lib.hid h2
    clear h2
    go_enter Try.func32, Try.ntmps32
    go_wp2_with (go_at_call 43; refine H.out.mono ?_; rintro e w' ⟨rfl, hm2⟩; have Hm2 := Lib.hid hm2; clear hm2)
    go_ret
    exact ⟨ret_bool (by rw [h2'.out]), Hm2.out⟩

set_option maxRecDepth 100000 in
set_option maxHeartbeats 1600000 in
theorem matCheck_any (a : Option Addr) (c : Nat) (l : List (ByteArray × Int)) (D : Nat → Prop) (w : World) (hx : Mats D w a l) (hcap : l.length ≤ c) :
    Calls Try.prog 12 #[.slice a l.length c] w fun e w' => e = .returned (.int .i64 (checkM l)) ∧ Mod NoBlock w w' := by
  have Hx := Lib.hid hx
  obtain ⟨lx, b, o, ha, hc⟩ := hx.open
  have Ha := Lib.hid ha
  have Hc := Lib.hid hc
  clear hx ha hc
  by_cases hl : 16 < l.length
  · have E := Lib.hid (checkM_long hl)
    go_enter Try.func12, Try.ntmps12
    go_wp2
    go_ret
    exact ⟨ret_int E.out.symm, Mod.refl _ _⟩
  by_cases h0 : l.length = 0
  · have E := Lib.hid (checkM_nil h0)
    have h0' : ((l.length : Int) == 0) = true := by rw [beq_iff_eq]; omega
    clear h0
    go_enter Try.func12, Try.ntmps12
    go_wp2
    go_ret
    exact ⟨ret_int E.out.symm, Mod.refl _ _⟩
  have h0' : ((l.length : Int) == 0) = false := by rw [beq_eq_false_iff_ne]; omega
  have Ebad := Lib.hid (fun hf => checkM_bad hl h0 hf)
  have Eok := Lib.hid (fun hf => checkM_ok hl h0 hf)
  clear h0
  go_enter Try.func12, Try.ntmps12
  go_wp2
  go_loopw [4, 15] (fun p i wr => ∃ k : Nat, k ≤ l.length ∧ i = .int .i64 k ∧ firstF (l.drop k) = firstF l ∧ Mod NoBlock w wr) (fun _ i _ => l.length - (intOf i).toNat)
  case atStart => exact ⟨0, by omega, rfl, rfl, Mod.refl _ _⟩
  case round =>
    obtain ⟨k, hk, rfl, hr, hm⟩ := hrel
    have Hr := Lib.hid hr
    have Hm := Lib.hid hm
    clear hr hm
    by_cases hlt : k < l.length
    · have h1 := Hm.out.cell (Hc.out k hlt).1 (fun h => h)
      have h2 := Hm.out.cell (Hc.out k hlt).2 (fun h => h)
      obtain rfl := Ha.out (by intro h; simp [h] at hlt)
      have e := Lib.hid (show firstF (l.drop k) = if matFault (mx l k) = 0 then firstF (l.drop (k + 1)) else matFault (mx l k) by rw [drop_mx hlt]; rfl)
      have Hf5 := Lib.hid (fun h => matFault_name (x := mx l k) h)
      have Hf1 := Lib.hid (fun h h2 => matFault_range (x := mx l k) h h2)
      have Hf0 := Lib.hid (fun h h2 => matFault_ok (x := mx l k) h h2)
      obtain ⟨nm, hnm⟩ : ∃ nm, (mx l k).1 = nm := ⟨_, rfl⟩
      obtain ⟨dn, hdn⟩ : ∃ nm, (mx l k).2 = nm := ⟨_, rfl⟩
      rw [hnm] at h1 Hf5 Hf1 Hf0
      rw [hdn] at h2 Hf1 Hf0
      clear hnm hdn
      cases hn : nameL (bytesI nm)
      · have Hn := Lib.hid hn
        have E5 := Lib.hid (Hf5.out hn)
        clear hn
        go_wp2_with (go_at_call 31; refine (identValid_any _ _).mono ?_; rintro e w' ⟨rfl, rfl⟩; rw [Hn.out])
        go_ret
        have E1 : firstF l = 5 := by rw [← Hr.out, e.out, E5.out]; rfl
        exact ⟨ret_int (by rw [Ebad.out (by rw [E1]; decide), E1]), Hm.out.alloc _⟩
      · have Hn := Lib.hid hn
        by_cases hlow : dn < 1
        · have E5 := Lib.hid (Hf1.out hn (.inl hlow))
          clear hn
          go_wp2_with (go_at_call 31; refine (identValid_any _ _).mono ?_; rintro e w' ⟨rfl, rfl⟩; rw [Hn.out])
          go_ret
          have E1 : firstF l = 1 := by rw [← Hr.out, e.out, E5.out]; rfl
          exact ⟨ret_int (by rw [Ebad.out (by rw [E1]; decide), E1]), Hm.out.alloc _⟩
        by_cases hhigh : 20000 < dn
        · have E5 := Lib.hid (Hf1.out hn (.inr hhigh))
          clear hn
          go_wp2_with (go_at_call 31; refine (identValid_any _ _).mono ?_; rintro e w' ⟨rfl, rfl⟩; rw [Hn.out])
          go_ret
          have E1 : firstF l = 1 := by rw [← Hr.out, e.out, E5.out]; rfl
          exact ⟨ret_int (by rw [Ebad.out (by rw [E1]; decide), E1]), Hm.out.alloc _⟩
        · have E5 := Lib.hid (Hf0.out hn (by omega))
          clear hn
          go_wp2_with (go_at_call 31; refine (identValid_any _ _).mono ?_; rintro e w' ⟨rfl, rfl⟩; rw [Hn.out])
          exact ⟨⟨k + 1, by omega, by go_num, by rw [← Hr.out, e.out, E5.out]; rfl, Hm.out.alloc _⟩, by simp [intOf]; omega⟩
    · have hf : firstF l = 0 := by rw [← Hr.out, List.drop_eq_nil_of_le (by omega)]; rfl
      have E := Lib.hid (Eok.out hf)
      clear hf
      go_wp2
      go_loopw [5, 6, 34] (fun u p i wr => ∃ k : Nat, k ≤ l.length ∧ i = .int .i64 k ∧ dupTo l k = false ∧ Mod NoBlock w wr) (fun _ _ i _ => l.length - (intOf i).toNat)
      case atStart => exact ⟨0, by omega, rfl, rfl, Hm.out⟩
      case round =>
        obtain ⟨j, hj, rfl, hd, hm2⟩ := hrel
        have Hd := Lib.hid hd
        have Hm2 := Lib.hid hm2
        clear hd hm2
        by_cases hjl : j < l.length
        · have h1 := Hm2.out.cell (Hc.out j hjl).1 (fun h => h)
          have h2 := Hm2.out.cell (Hc.out j hjl).2 (fun h => h)
          obtain rfl := Ha.out (by intro h; simp [h] at hjl)
          obtain ⟨nm, hnm⟩ : ∃ nm, (mx l j).1 = nm := ⟨_, rfl⟩
          obtain ⟨dn, hdn⟩ : ∃ nm, (mx l j).2 = nm := ⟨_, rfl⟩
          rw [hnm] at h1
          rw [hdn] at h2
          have Hhas := Lib.hid (show hasB l j = (l.take j).any (fun y => eqS nm y.1) by unfold hasB; rw [hnm])
          have hjc : (j : Int) ≤ (c : Int) := by omega
          have Hjl : Hid ((l.take j).length = j) := by unfold Hid; rw [List.length_take]; omega
          have Hcall := Lib.hid (eqContains_any wr.heap.size nm (some ⟨b, o, Option.none⟩) j c (l.take j) D (wr.alloc (.cells #[.string nm, .int .i64 dn] 25)) Hjl.out
            (((Hx.out.frame Hm2.out).frame ((Mod.refl _ _).alloc _)).take j) (cell_new wr _ _ 0 _ rfl))
          rw [← Hhas.out] at Hcall
          clear hnm hdn
          cases hh : hasB l j
          · have Hh := Lib.hid hh
            clear hh
            go_wp2_with (go_at_call 32; refine Hcall.out.mono ?_; rintro e w' ⟨rfl, hm3⟩; rw [Hh.out]; have Hm3 := Lib.hid hm3; clear hm3)
            exact ⟨⟨j + 1, by omega, by go_num, by rw [dupTo_succ, Hd.out, Hh.out]; rfl, (Hm2.out.alloc _).trans Hm3.out⟩, by simp [intOf]; omega⟩
          · have Hh := Lib.hid hh
            have Hdup := Lib.hid (dupTo_of hjl hh)
            clear hh
            go_wp2_with (go_at_call 32; refine Hcall.out.mono ?_; rintro e w' ⟨rfl, hm3⟩; rw [Hh.out]; have Hm3 := Lib.hid hm3; clear hm3)
            go_ret
            exact ⟨ret_int (by rw [E.out, Hdup.out]; rfl), (Hm2.out.alloc _).trans Hm3.out⟩
        · have hjj : j = l.length := by omega
          have Hd2 := Lib.hid (show dupTo l l.length = false by rw [← hjj]; exact Hd.out)
          clear hjj
          go_wp2
          go_ret
          exact ⟨ret_int (by rw [E.out, Hd2.out]; rfl), Hm2.out⟩

set_option maxRecDepth 100000 in
set_option maxHeartbeats 1600000 in
theorem refCheck_any (a : Option Addr) (c : Nat) (l : List (ByteArray × Int)) (D : Nat → Prop) (w : World) (hx : Mats D w a l) :
    Calls Try.prog 13 #[.slice a l.length c] w fun e w' => e = .returned (.int .i64 (checkM l)) ∧ Drawn w w' := by
  obtain ⟨lx, b, o, ha, hc⟩ := hx.open
  have Ha := Lib.hid ha
  have Hc := Lib.hid hc
  clear hx ha hc
  by_cases hl : 16 < l.length
  · have E := Lib.hid (checkM_long hl)
    go_enter Try.func13, Try.ntmps13
    go_wp2
    go_ret
    exact ⟨ret_int E.out.symm, Drawn.refl _⟩
  by_cases h0 : l.length = 0
  · have E := Lib.hid (checkM_nil h0)
    have h0' : ((l.length : Int) == 0) = true := by rw [beq_iff_eq]; omega
    clear h0
    go_enter Try.func13, Try.ntmps13
    go_wp2
    go_ret
    exact ⟨ret_int E.out.symm, Drawn.refl _⟩
  have h0' : ((l.length : Int) == 0) = false := by rw [beq_eq_false_iff_ne]; omega
  have Ebad := Lib.hid (fun hf => checkM_bad hl h0 hf)
  have Eok := Lib.hid (fun hf => checkM_ok hl h0 hf)
  clear h0
  go_enter Try.func13, Try.ntmps13
  go_wp2
  go_loop [3] (fun i => ∃ k : Nat, k ≤ l.length ∧ i = .int .i64 k ∧ firstF (l.drop k) = firstF l) (fun i => l.length - (intOf i).toNat)
  case atStart => exact ⟨0, by omega, rfl, rfl⟩
  case round =>
    obtain ⟨k, hk, rfl, hr⟩ := hrel
    have Hr := Lib.hid hr
    clear hr
    by_cases hlt : k < l.length
    · obtain ⟨h1, h2⟩ := Hc.out k hlt
      obtain rfl := Ha.out (by intro h; simp [h] at hlt)
      have e := Lib.hid (show firstF (l.drop k) = if matFault (mx l k) = 0 then firstF (l.drop (k + 1)) else matFault (mx l k) by rw [drop_mx hlt]; rfl)
      have Hf5 := Lib.hid (fun h => matFault_name (x := mx l k) h)
      have Hf1 := Lib.hid (fun h h2 => matFault_range (x := mx l k) h h2)
      have Hf0 := Lib.hid (fun h h2 => matFault_ok (x := mx l k) h h2)
      obtain ⟨nm, hnm⟩ : ∃ nm, (mx l k).1 = nm := ⟨_, rfl⟩
      obtain ⟨dn, hdn⟩ : ∃ nm, (mx l k).2 = nm := ⟨_, rfl⟩
      rw [hnm] at h1 Hf5 Hf1 Hf0
      rw [hdn] at h2 Hf1 Hf0
      have q1 : (0 : Int) ≤ (k : Int) := by omega
      have q2 : (k : Int) < (l.length : Int) := by omega
      clear hnm hdn
      cases hn : nameL (bytesI nm)
      · have Hn := Lib.hid hn
        have E5 := Lib.hid (Hf5.out hn)
        clear hn
        go_wp2_with (go_at_call 34; refine (refName_any _ _).mono ?_; rintro e w' ⟨rfl, rfl⟩; rw [Hn.out])
        go_ret
        have E1 : firstF l = 5 := by rw [← Hr.out, e.out, E5.out]; rfl
        exact ⟨ret_int (by rw [Ebad.out (by rw [E1]; decide), E1]), Drawn.refl _⟩
      · have Hn := Lib.hid hn
        by_cases hlow : dn < 1
        · have E5 := Lib.hid (Hf1.out hn (.inl hlow))
          clear hn
          go_wp2_with (go_at_call 34; refine (refName_any _ _).mono ?_; rintro e w' ⟨rfl, rfl⟩; rw [Hn.out])
          go_ret
          have E1 : firstF l = 1 := by rw [← Hr.out, e.out, E5.out]; rfl
          exact ⟨ret_int (by rw [Ebad.out (by rw [E1]; decide), E1]), Drawn.refl _⟩
        by_cases hhigh : 20000 < dn
        · have E5 := Lib.hid (Hf1.out hn (.inr hhigh))
          clear hn
          go_wp2_with (go_at_call 34; refine (refName_any _ _).mono ?_; rintro e w' ⟨rfl, rfl⟩; rw [Hn.out])
          go_ret
          have E1 : firstF l = 1 := by rw [← Hr.out, e.out, E5.out]; rfl
          exact ⟨ret_int (by rw [Ebad.out (by rw [E1]; decide), E1]), Drawn.refl _⟩
        · have E5 := Lib.hid (Hf0.out hn (by omega))
          clear hn
          go_wp2_with (go_at_call 34; refine (refName_any _ _).mono ?_; rintro e w' ⟨rfl, rfl⟩; rw [Hn.out])
          exact ⟨⟨k + 1, by omega, by go_num, by rw [← Hr.out, e.out, E5.out]; rfl⟩, by simp [intOf]; omega⟩
    · have hf : firstF l = 0 := by rw [← Hr.out, List.drop_eq_nil_of_le (by omega)]; rfl
      have E := Lib.hid (Eok.out hf)
      clear hf
      go_wp2
      go_loopw [4, 5] (fun i u wr => ∃ k : Nat, k ≤ l.length ∧ i = .int .i64 k ∧ dupTo l k = false ∧ ∃ n, wr = w.drewN n) (fun i _ _ => l.length - (intOf i).toNat)
      case atStart => exact ⟨0, by omega, rfl, rfl, 0, rfl⟩
      case round =>
        obtain ⟨j, hj, rfl, hd, n, rfl⟩ := hrel
        have Hd := Lib.hid hd
        clear hd
        by_cases hjl : j < l.length
        · have h1 := (Hc.out j hjl).1
          obtain rfl := Ha.out (by intro h; simp [h] at hjl)
          obtain ⟨nm, hnm⟩ : ∃ nm, (mx l j).1 = nm := ⟨_, rfl⟩
          rw [hnm] at h1
          have Hhas := Lib.hid (show hasB l j = (l.take j).any (fun y => eqS nm y.1) by unfold hasB; rw [hnm])
          have q1 : (0 : Int) ≤ (j : Int) := by omega
          have q2 : (j : Int) < (l.length : Int) := by omega
          clear hnm
          go_wp2
          go_loopw [5] (fun i wr => ∃ k : Nat, k ≤ j ∧ i = .int .i64 k ∧ (l.take k).any (fun y => eqS nm y.1) = false ∧ ∃ n, wr = w.drewN n) (fun i _ => j - (intOf i).toNat)
          case atStart => exact ⟨0, by omega, rfl, rfl, n, rfl⟩
          case round =>
            obtain ⟨i, hi, rfl, hd2, n2, rfl⟩ := hrel
            have Hd2 := Lib.hid hd2
            clear hd2
            by_cases hij : i < j
            · have h3 := (Hc.out i (by omega)).1
              have q3 : (0 : Int) ≤ (i : Int) := by omega
              have q4 : (i : Int) < (l.length : Int) := by omega
              have Ht := Lib.hid (show (l.take (i + 1)).any (fun y => eqS nm y.1) = ((l.take i).any (fun y => eqS nm y.1) || eqS nm (mx l i).1) by
                rw [List.take_succ_eq_append_getElem (by omega), List.any_append, ← mx_eq (by omega)]; simp)
              have Hhas2 := Lib.hid (fun (h : (l.take (i + 1)).any (fun y => eqS nm y.1) = true) => (show hasB l j = true by
                rw [Hhas.out]
                rw [List.any_eq_true] at h ⊢
                obtain ⟨y, hy, he⟩ := h
                exact ⟨y, (List.take_subset_take_left l (by omega)) hy, he⟩))
              generalize (mx l i).1 = nm2 at *
              cases heq : eqS nm nm2
              · have hb : (nm.toList == nm2.toList) = false := heq
                have Heq := Lib.hid heq
                clear heq
                go_wp2
                go_quiet (fail)
                go_wp2
                exact ⟨⟨i + 1, by omega, by go_num, by rw [Ht.out, Hd2.out, Heq.out]; rfl, _, rfl⟩, by simp [intOf]; omega⟩
              · have hb : (nm.toList == nm2.toList) = true := heq
                have Hdup := Lib.hid (dupTo_of hjl (Hhas2.out (by rw [Ht.out, heq]; simp)))
                clear heq
                go_wp2
                go_quiet (fail)
                go_wp2
                go_ret
                exact ⟨ret_int (by rw [E.out, Hdup.out]; rfl), (Drawn.mk _ _).trans (Drawn.mk _ _)⟩
            · obtain rfl : i = j := by omega
              go_wp2
              exact ⟨⟨i + 1, by omega, by go_num, by rw [dupTo_succ, Hd.out, Hhas.out, Hd2.out]; rfl, _, rfl⟩, by simp [intOf]; omega⟩
        · have hjj : j = l.length := by omega
          have Hd2 := Lib.hid (show dupTo l l.length = false by rw [← hjj]; exact Hd.out)
          clear hjj
          go_wp2
          go_ret
          exact ⟨ret_int (by rw [E.out, Hd2.out]; rfl), Drawn.mk _ _⟩

end Go.Proofs.Ytghciackhkimoaa
