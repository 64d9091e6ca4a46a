/-
  The calls of package belt and of its reference, in the form that the laws use; awake.
-/
import Derived.Test.YtinoekldcchfhaaWh
import Derived.Test.YtinoekldcchfhaaWi
set_option linter.unusedVariables false
set_option linter.unusedSimpArgs false
namespace Go.Proofs.Ytinoekldcchfhaa
open Go.RowKit

section
variable {D : Nat → Prop} {bb m : Nat} {sl : List (List Int)} {w : World}

theorem new_gen (D : Nat → Prop) (n m : Nat) (w : World) (hf : ∀ k, w.heap.size < k → D k) (hb : ¬ D w.heap.size) (hn : 1 ≤ n) (hn2 : n ≤ 16) (hm : 1 ≤ m) (hm2 : m ≤ 16) :
    Calls Try.prog 10 #[.int .i64 n, .int .i64 m] w fun e w' => e = .returned (.tuple #[.pointer (some ⟨w.heap.size, 0, Option.none⟩), .int .i64 0]) ∧ Mod NoBlock w w' ∧ BeltAt D w' w.heap.size m (noughts n m) :=
  (beltNew_ok n m w hn hn2 hm hm2).mono fun e w' ⟨h1, h2, h3⟩ => ⟨h1, h2, h3.mono (fun b _ h => hf b h) hb⟩

theorem step_gen (a : Option Addr) (c : Nat) (xs : List Int) (hf : ∀ k, w.heap.size ≤ k → D k) (hb : BeltAt D w bb m sl) (hx : Ints D w a xs) (hv : validL xs m = true) :
    Calls Try.prog 21 #[.pointer (some ⟨bb, 0, Option.none⟩), .slice a xs.length c] w fun e w' => ∃ a' c', e = .returned (.tuple #[.slice a' m c', .int .i64 0]) ∧
      Mod (fun b => b = bb) w w' ∧ Ints D w' a' (rx sl (sl.length - 1)) ∧ BeltAt D w' bb m (xs :: sl.dropLast) :=
  (step_ok D D bb m sl a c xs w hb hx (fun b h e => hb.away (e ▸ h)) hv).mono fun e w' ⟨a', c', h1, h2, h3, h4⟩ =>
    ⟨a', c', h1, h2, h3, h4.mono (fun b _ h => h.elim id (hf b)) hb.away⟩

theorem slots_gen (hf : ∀ k, w.heap.size ≤ k → D k) (hb : BeltAt D w bb m sl) :
    Calls Try.prog 13 #[.pointer (some ⟨bb, 0, Option.none⟩)] w fun e w' => ∃ a' c', e = .returned (.slice a' sl.length c') ∧
      Mod NoBlock w w' ∧ Mixes D w' a' sl :=
  (slotsList_any D bb m sl w hb).mono fun e w' ⟨a', c', h1, h2, h3⟩ => ⟨a', c', h1, h2, h3.mono fun b _ h => hf b h⟩

theorem total_gen (hf : ∀ k, w.heap.size ≤ k → D k) (hb : BeltAt D w bb m sl) :
    Calls Try.prog 15 #[.pointer (some ⟨bb, 0, Option.none⟩)] w fun e w' => ∃ a', e = .returned (.slice a' m m) ∧
      Mod NoBlock w w' ∧ Ints D w' a' (totalL m sl) :=
  (beltTotal_any D bb m sl w hb).mono fun e w' ⟨a', h1, h2, h3⟩ => ⟨a', h1, h2, h3.mono fun b _ h => hf b h⟩

theorem clear_gen (hf : ∀ k, w.heap.size ≤ k → D k) (hb : BeltAt D w bb m sl) :
    Calls Try.prog 19 #[.pointer (some ⟨bb, 0, Option.none⟩)] w fun e w' => ∃ a', e = .returned (.slice a' m m) ∧
      Mod (fun b => b = bb) w w' ∧ Ints D w' a' (totalL m sl) ∧ BeltAt D w' bb m (noughts sl.length m) :=
  (beltClear_any D bb m sl w hb).mono fun e w' ⟨a', h1, h2, h3, h4⟩ => ⟨a', h1, h2, h3.mono (fun b _ h => hf b h), h4.mono (fun b _ h => hf b h) hb.away⟩
end

theorem slots_n {D : Nat → Prop} {bb m : Nat} {sl : List (List Int)} {w : World} (n : Nat) (hn : sl.length = n) (hf : ∀ k, w.heap.size ≤ k → D k) (hb : BeltAt D w bb m sl) :
    Calls Try.prog 13 #[.pointer (some ⟨bb, 0, Option.none⟩)] w fun e w' => ∃ a' c', e = .returned (.slice a' n c') ∧ Mod NoBlock w w' ∧ Mixes D w' a' sl := by
  subst hn; exact slots_gen hf hb
/-- Same of two equal mixes. -/
theorem same_eq {w : World} (a1 a2 : Option Addr) (c1 c2 n : Nat) (xs : List Int) {D1 D2 : Nat → Prop} (hn : xs.length = n) (hx : Ints D1 w a1 xs) (hy : Ints D2 w a2 xs) :
    Calls Try.prog 14 #[.slice a1 n c1, .slice a2 n c2] w fun e w' => e = .returned (.bool true) ∧ Mod NoBlock w w' := by
  subst hn
  exact (same_any a1 a2 c1 c2 xs xs D1 D2 w hx hy).mono fun e w' ⟨h1, h2⟩ => ⟨by rw [h1]; simp, (Mod.refl _ _).drawn h2⟩
/-- SameList of two equal lists. -/
theorem sameList_eq {w : World} (a1 a2 : Option Addr) (c1 c2 n : Nat) (xs : List (List Int)) {D1 D2 : Nat → Prop} (hn : xs.length = n) (hx : Mixes D1 w a1 xs) (hy : Mixes D2 w a2 xs) :
    Calls Try.prog 12 #[.slice a1 n c1, .slice a2 n c2] w fun e w' => e = .returned (.bool true) ∧ Mod NoBlock w w' := by
  subst hn
  exact (sameList_any a1 a2 c1 c2 xs xs D1 D2 w hx hy).mono fun e w' ⟨h1, h2⟩ => ⟨by rw [h1]; simp, (Mod.refl _ _).drawn h2⟩

theorem Ints.head {D : Nat → Prop} {w : World} {a : Option Addr} {xs : List Int} (h : Ints D w a xs) (hx : xs ≠ []) : ∃ b off, a = some ⟨b, off, Option.none⟩ ∧ D b ∧ b < w.heap.size ∧ w.cell? ⟨b, off, Option.none⟩ = some (.int .i64 (ix xs 0)) ∧ w.frozen? ⟨b, off, Option.none⟩ = false := by
  obtain ⟨b, off, ha, hD, hc⟩ := h.2 hx
  have hpos : 0 < xs.length := by cases xs <;> simp_all
  exact ⟨b, off, ha, hD, World.block_lt_of_cell? w _ (hc 0 hpos).1, (hc 0 hpos).1, (hc 0 hpos).2⟩
theorem Mixes.head {D : Nat → Prop} {w : World} {a : Option Addr} {xss : List (List Int)} (h : Mixes D w a xss) (hx : 0 < xss.length) : ∃ b off a' c', a = some ⟨b, off, Option.none⟩ ∧ w.cell? ⟨b, off, Option.none⟩ = some (.slice a' (rx xss 0).length c') ∧ Ints D w a' (rx xss 0) := by
  obtain ⟨b, off, a', c', ha, _, h1, h2⟩ := h.row hx
  exact ⟨b, off, a', c', ha, h1, h2⟩

theorem BeltAt.kept {D : Nat → Prop} {w w' : World} {bb m : Nat} {sl : List (List Int)} (h : BeltAt D w bb m sl) (hm : Mod NoBlock w w') : BeltAt D w' bb m sl := h.mod hm id (fun _ _ _ h => h)

theorem Mod.undrew {D : Nat → Prop} {w w' : World} (h : Mod D w.drew w') : Mod D w w' := ⟨h.os, h.tape, h.output, h.size, h.block⟩
theorem BeltAt.drew {D : Nat → Prop} {w : World} {bb m : Nat} {sl : List (List Int)} (h : BeltAt D w bb m sl) : BeltAt D w.drew bb m sl := h.kept (Mod.refl NoBlock w).drew
theorem BeltAt.drewN {D : Nat → Prop} {w : World} {bb m : Nat} {sl : List (List Int)} (h : BeltAt D w bb m sl) (n : Nat) : BeltAt D (w.drewN n) bb m sl := h.kept ((Mod.refl NoBlock w).drewN n)

def NotAt (bb : Nat) : Nat → Prop := fun b => b ≠ bb

theorem Ints.na {bb : Nat} {w w' : World} {a : Option Addr} {xs : List Int} (h : Ints (NotAt bb) w a xs) (hm : Mod (fun b => b = bb) w w') : Ints (NotAt bb) w' a xs := h.mod hm fun _ _ h => h
theorem Mixes.na {bb : Nat} {w w' : World} {a : Option Addr} {xs : List (List Int)} (h : Mixes (NotAt bb) w a xs) (hm : Mod (fun b => b = bb) w w') : Mixes (NotAt bb) w' a xs := h.mod hm fun _ _ h => h
theorem na_fresh {bb : Nat} {w : World} (h : bb < w.heap.size) : ∀ k, w.heap.size ≤ k → NotAt bb k := fun k hk => by unfold NotAt; omega

section
variable {bb : Nat} {sl : List (List Int)} {w : World}
/-- A step with one mass that is written out. -/
theorem step_lit (x : Int) (t : TypeId) (hb : BeltAt (NotAt bb) w bb 1 sl) (hv : validL [x] 1 = true) :
    Calls Try.prog 21 #[.pointer (some ⟨bb, 0, Option.none⟩), .slice (some ⟨w.heap.size, 0, Option.none⟩) 1 1] (w.alloc (.cells #[.int .i64 x] t)) fun e w' => ∃ a' c', e = .returned (.tuple #[.slice a' 1 c', .int .i64 0]) ∧
      Mod (fun b => b = bb) w w' ∧ Ints (NotAt bb) w' a' (rx sl (sl.length - 1)) ∧ BeltAt (NotAt bb) w' bb 1 ([x] :: sl.dropLast) :=
  (step_gen (D := NotAt bb) _ _ [x] (na_fresh (by simp; have := hb.lt; omega)) (hb.kept ((Mod.refl _ _).alloc _)) (Ints.one _ _ _ _ (na_fresh hb.lt _ (Nat.le_refl _))) hv).mono
    fun e w' ⟨a', c', h1, h2, h3, h4⟩ => ⟨a', c', h1, ((Mod.refl _ _).alloc _).trans h2, h3, h4⟩

/-- Same of a mix and one mass that is written out. -/
theorem same_lit (a : Option Addr) (c : Nat) (x : Int) (t : TypeId) {D : Nat → Prop} (hx : Ints D w a [x]) :
    Calls Try.prog 14 #[.slice a 1 c, .slice (some ⟨w.heap.size, 0, Option.none⟩) 1 1] (w.alloc (.cells #[.int .i64 x] t)) fun e w' => e = .returned (.bool true) ∧ Mod NoBlock w w' :=
  (same_any a (some ⟨w.heap.size, 0, Option.none⟩) c 1 [x] [x] D (fun _ => True) _ (hx.alloc _) (Ints.one _ _ _ _ trivial)).mono fun e w' ⟨h1, h2⟩ => ⟨by rw [h1]; simp, ((Mod.refl _ _).alloc _).drawn h2⟩
/-- SameList of a list of mixes and two mixes of one mass that are written out. -/
theorem sameList_lit (a : Option Addr) (c : Nat) (x y : Int) (t t' t2 : TypeId) {D : Nat → Prop} (hx : Mixes D w a [[x], [y]]) :
    Calls Try.prog 12 #[.slice a 2 c, .slice (some ⟨w.heap.size + 1 + 1, 0, Option.none⟩) 2 2]
      (((w.alloc (.cells #[.int .i64 x] t)).alloc (.cells #[.int .i64 y] t')).alloc (.cells #[.slice (some ⟨w.heap.size, 0, Option.none⟩) 1 1, .slice (some ⟨w.heap.size + 1, 0, Option.none⟩) 1 1] t2)) fun e w' => e = .returned (.bool true) ∧ Mod NoBlock w w' := by
  have e1 : (w.alloc (.cells #[.int .i64 x] t)).heap.size = w.heap.size + 1 := by simp
  have e2 : ((w.alloc (.cells #[.int .i64 x] t)).alloc (.cells #[.int .i64 y] t')).heap.size = w.heap.size + 1 + 1 := by simp
  have h1 := (Ints.one (fun _ => True) w x t trivial).alloc (.cells #[.int .i64 y] t')
  have h2 := Ints.one (fun _ => True) (w.alloc (.cells #[.int .i64 x] t)) y t' trivial
  have h3 := Mixes.two h1 h2 1 1 t2
  rw [e1] at h3
  rw [e2] at h3
  refine (sameList_any a (some ⟨w.heap.size + 1 + 1, 0, Option.none⟩) c 2 [[x], [y]] [[x], [y]] D _ _ (((hx.alloc _).alloc _).alloc _) h3).mono fun e w' ⟨h1, h2⟩ => ⟨by rw [h1]; simp, ((((Mod.refl _ _).alloc _).alloc _).alloc _).drawn h2⟩
end

set_option maxRecDepth 100000 in
set_option maxHeartbeats 4000000 in
theorem awake_any (w : World) : Calls Try.prog 17 #[] w fun e w' => e = .returned (.bool true) ∧ Mod NoBlock w w' := by
  go_enter Try.func17, Try.ntmps17
  go_wp2_with fail
  refine (new_gen (NotAt w.heap.size) 2 1 _ (fun k hk => by unfold NotAt; omega) (fun h => h rfl) (by omega) (by omega) (by omega) (by omega)).mono ?_
  rintro e w1 ⟨rfl, hm1, hb1⟩
  go_wp2_with fail
  refine (step_lit 5 _ hb1 (by decide)).mono ?_
  rintro e w2 ⟨ax, cx, rfl, hm2, hx, hb2⟩
  change Ints _ _ _ [0] at hx
  change BeltAt _ _ _ _ [[5], [0]] at hb2
  go_wp2_with fail
  refine (step_lit 7 _ hb2 (by decide)).mono ?_
  rintro e w3 ⟨ay, cy, rfl, hm3, hy, hb3⟩
  change Ints _ _ _ [0] at hy
  change BeltAt _ _ _ _ [[7], [5]] at hb3
  go_wp2_with fail
  refine (step_lit 1 _ hb3 (by decide)).mono ?_
  rintro e w4 ⟨az, cz, rfl, hm4, hz, hb4⟩
  change Ints _ _ _ [5] at hz
  change BeltAt _ _ _ _ [[1], [7]] at hb4
  go_wp2_with fail
  refine (step_bad (NotAt w.heap.size) (fun _ => True) _ 1 [[1], [7]] _ _ [1, 2] _ (hb4.kept ((Mod.refl _ _).alloc _)) (Ints.pair _ _ _ _ _ trivial) (by decide)).mono ?_
  rintro e w5 ⟨rfl, hm5⟩
  replace hm5 := ((Mod.refl NoBlock w4).alloc _).trans hm5
  have hb5 := hb4.kept hm5
  go_wp2_with fail
  refine (slots_gen (na_fresh hb5.lt) hb5).mono ?_
  rintro e w6 ⟨asl, csl, rfl, hm6, hs⟩
  have hb6 := hb5.kept hm6
  go_wp2_with fail
  refine (total_gen (na_fresh hb6.lt) hb6).mono ?_
  rintro e w7 ⟨at7, rfl, hm7, ht⟩
  change Ints _ _ _ [8] at ht
  have hb7 := hb6.kept hm7
  go_wp2_with fail
  refine (clear_gen (na_fresh hb7.lt) hb7).mono ?_
  rintro e w8 ⟨a8, rfl, hm8, hc, hb8⟩
  change Ints _ _ _ [8] at hc
  go_wp2_with fail
  refine (clear_gen (na_fresh hb8.lt) hb8).mono ?_
  rintro e w9 ⟨a9, rfl, hm9, hd, hb9⟩
  change Ints _ _ _ [0] at hd
  have m79 := hm8.trans hm9
  have m69 := hm7.only.trans m79
  have m49 := (hm5.trans hm6).only.trans m69
  have Hx := Lib.hid (hx.na ((hm3.trans hm4).trans m49))
  have Hy := Lib.hid (hy.na (hm4.trans m49))
  have Hz := Lib.hid (hz.na m49)
  have Hs := Lib.hid (hs.na m69)
  have Ht := Lib.hid (ht.na m79)
  have Hc := Lib.hid (hc.na hm9)
  have Hd := Lib.hid hd
  have Hm := Lib.hid (hm1.step (((hm2.trans hm3).trans hm4).trans m49) (fun i hi e => by omega))
  clear hx hy hz hs ht hc hd hm1 hm2 hm3 hm4 hm5 hm6 hm7 hm8 hm9 hb1 hb2 hb3 hb4 hb5 hb6 hb7 hb8 hb9 m79 m69 m49
  go_wp2_with fail
  refine (same_lit ax cx 0 _ Hx.out).mono ?_
  rintro e w10 ⟨rfl, k10⟩
  have K10 := Lib.hid k10; clear k10
  go_wp2_with fail
  refine (same_lit ay cy 0 _ (Hy.out.frame K10.out)).mono ?_
  rintro e w11 ⟨rfl, k11⟩
  have K11 := Lib.hid (K10.out.trans k11); clear k11
  go_wp2_with fail
  refine (same_lit az cz 5 _ (Hz.out.frame K11.out)).mono ?_
  rintro e w12 ⟨rfl, k12⟩
  have K12 := Lib.hid (K11.out.trans k12); clear k12
  go_wp2_with fail
  refine (sameList_lit asl csl 1 7 _ _ _ (Hs.out.frame K12.out)).mono ?_
  rintro e w13 ⟨rfl, k13⟩
  have K13 := Lib.hid (K12.out.trans k13); clear k13
  go_wp2_with fail
  refine (same_lit at7 1 8 _ (Ht.out.frame K13.out)).mono ?_
  rintro e w14 ⟨rfl, k14⟩
  have K14 := Lib.hid (K13.out.trans k14); clear k14
  go_wp2_with fail
  refine (same_lit a8 1 8 _ (Hc.out.frame K14.out)).mono ?_
  rintro e w15 ⟨rfl, k15⟩
  have K15 := Lib.hid (K14.out.trans k15); clear k15
  go_wp2_with fail
  refine (same_lit a9 1 0 _ (Hd.out.frame K15.out)).mono ?_
  rintro e w16 ⟨rfl, k16⟩
  have K16 := Lib.hid (K15.out.trans k16); clear k16
  go_wp2
  go_ret
  exact ⟨rfl, Hm.out.trans K16.out⟩

end Go.Proofs.Ytinoekldcchfhaa
