/-
  material.Litres; the reference's.
-/
import Derived.Test.YtghciackhkimoaaVn
import Derived.Test.YtghciackhkimoaaVl
set_option linter.unusedVariables false
set_option linter.unusedSimpArgs false
namespace Go.Proofs.Ytghciackhkimoaa
open Go.RowKit

/-- The litres of one material. -/
def litOne (m d : Int) : Int := (m + d - 1) / d
/-- The litres of the first k materials. -/
def litTo (l : List (ByteArray × Int)) (m : List Int) : Nat → Int
  | 0 => 0
  | k + 1 => litTo l m k + litOne (ix m k) (mx l k).2
def litL (l : List (ByteArray × Int)) (m : List Int) : Int × Int :=
  if checkM l = 0 then if faultL m = 0 then if m.length = l.length then (litTo l m m.length, 0) else (0, 18) else (0, faultL m) else (0, checkM l)
theorem litOne_bound {m d : Int} (hm : 0 ≤ m ∧ m ≤ 1073741824) (hd : 1 ≤ d ∧ d ≤ 20000) : 0 ≤ litOne m d ∧ litOne m d ≤ 1073741824 := by
  unfold litOne
  refine ⟨Int.ediv_nonneg (by omega) (by omega), ?_⟩
  have : (m + d - 1) / d ≤ m := by
    by_cases h : m = 0
    · subst h
      rw [Int.ediv_eq_zero_of_lt (by omega) (by omega)]
      omega
    · have h1 : (m + d - 1) / d < m + 1 := by
        refine Int.ediv_lt_of_lt_mul (by omega) ?_
        have h2 : (m + 1) * d = m * d + d := by rw [Int.add_mul, Int.one_mul]
        have h3 : m * 1 ≤ m * d := Int.mul_le_mul_of_nonneg_left hd.1 hm.1
        omega
      omega
  omega

set_option maxRecDepth 100000 in
set_option maxHeartbeats 1600000 in
theorem matLitres_any (a : Option Addr) (c : Nat) (l : List (ByteArray × Int)) (a2 : Option Addr) (c2 : Nat) (m : List Int) (D D2 : Nat → Prop) (w : World) (hx : Mats D w a l) (hcap : l.length ≤ c) (hm : Ints D2 w a2 m) :
    Calls Try.prog 26 #[.slice a l.length c, .slice a2 m.length c2] w fun e w' => e = .returned (.tuple #[.int .i64 (litL l m).1, .int .i64 (litL l m).2]) ∧ Mod NoBlock w w' := by
  have Hchk := Lib.hid (matCheck_any a c l D w hx hcap)
  have Hx := Lib.hid hx
  have Hm := Lib.hid hm
  have hlx := hx.open.1
  have hlm := hm.open.1
  clear hx hm hcap
  by_cases hc : checkM l = 0
  · have Hc := Lib.hid hc
    by_cases hf : faultL m = 0
    · have Hf := Lib.hid hf
      by_cases hl : m.length = l.length
      · have E := Lib.hid (show litL l m = (litTo l m m.length, 0) by unfold litL; rw [if_pos hc, if_pos hf, if_pos hl])
        have hne : ((m.length : Int) != (l.length : Int)) = false := by simp [hl]
        obtain ⟨l16, hd⟩ := checkM_dens hc
        obtain ⟨_, hg⟩ := ok_of_fault hf
        have Hd := Lib.hid hd
        have Hg := Lib.hid hg
        have hle : l.length ≤ m.length := by omega
        have Hl := Lib.hid hl
        clear hc hf hl hd hg
        go_enter Try.func26, Try.ntmps26
        go_wp2_with fail
        refine Hchk.out.mono ?_; rintro e w1 ⟨rfl, m1⟩; rw [Hc.out]
        have M1 := Lib.hid m1
        have Hm1 := Lib.hid (Hm.out.frame m1)
        have Hx1 := Lib.hid (Hx.out.frame m1)
        clear m1
        go_wp2_with (go_at_call 39; refine (check_n1 _ _ _ _ _ _ rfl Hm1.out _).mono ?_; rintro e w9 ⟨rfl, rfl⟩; rw [Hf.out])
        have M2 := Lib.hid (M1.out.alloc (.cells #[.slice a2 m.length c2] 30))
        have Hm2 := Lib.hid (Hm1.out.alloc (.cells #[.slice a2 m.length c2] 30))
        have Hx2 := Lib.hid (Hx1.out.frame ((Mod.refl NoBlock w1).alloc (.cells #[.slice a2 m.length c2] 30)))
        generalize w1.alloc (.cells #[.slice a2 m.length c2] 30) = w2 at M2 Hm2 Hx2 ⊢
        clear Hchk M1 Hm1 Hx1 Hm Hx
        obtain ⟨_, b, o, ha, hcl⟩ := Hx2.out.open
        obtain ⟨_, b2, o2, ha2, hcl2⟩ := Hm2.out.open
        have Ha := Lib.hid ha
        have Hcl := Lib.hid hcl
        have Ha2 := Lib.hid ha2
        have Hcl2 := Lib.hid hcl2
        clear ha hcl ha2 hcl2
        go_loopw [8, 9, 10, 29] (fun s u p i wr => ∃ (k : Nat) (S : Int), k ≤ l.length ∧ i = .int .i64 k ∧ s = .int .i64 S ∧ S = litTo l m k ∧ 0 ≤ S ∧ S ≤ (k : Int) * 1073741824 ∧ Mod NoBlock w2 wr) (fun _ _ _ i _ => l.length - (intOf i).toNat)
        case atStart => exact ⟨0, 0, by omega, rfl, rfl, rfl, by omega, by omega, Mod.refl _ _⟩
        case round =>
          obtain ⟨k, S, hk, rfl, rfl, hS, s1, s2, hmr⟩ := hrel
          have HS := Lib.hid hS
          have Hmr := Lib.hid hmr
          clear hS hmr
          by_cases hlt : k < l.length
          · have h1 := Hmr.out.cell (Hcl.out k hlt).1 (fun h => h)
            have h2 := Hmr.out.cell (Hcl.out k hlt).2 (fun h => h)
            have h3 := Hmr.out.cell (Hcl2.out k (by omega)) (fun h => h)
            obtain rfl := Ha.out (by intro h; simp [h] at hlt)
            obtain rfl := Ha2.out (by intro h; rw [h] at hle; simp at hle; simp [hle] at hlt)
            have hdk := Hd.out k hlt
            have hgk := Hg.out k (by omega)
            have hlo := litOne_bound hgk hdk
            have HT := Lib.hid (show litTo l m (k + 1) = S + litOne (ix m k) (mx l k).2 by rw [HS.out]; rfl)
            generalize (mx l k).1 = nm at *
            generalize (mx l k).2 = dn at *
            generalize ix m k = v at *
            have e1 : IntKind.i64.wrap (v + dn) = v + dn := IntWalk.i64_in _ (by omega)
            have e2 : IntKind.i64.wrap (v + dn - 1) = v + dn - 1 := IntWalk.i64_in _ (by omega)
            have e3 : (v + dn - 1) / dn = litOne v dn := rfl
            have e4 : (v + dn - 1).tdiv dn = litOne v dn := by rw [Int.tdiv_eq_ediv_of_nonneg (by omega)]; rfl
            generalize litOne v dn = q at *
            have e5 : IntKind.i64.wrap (S + q) = S + q := IntWalk.i64_in _ (by omega)
            have qb1 : 0 ≤ q := hlo.1
            have qb2 : q ≤ 1073741824 := hlo.2
            have sb2 : S ≤ 17179869184 := by omega
            have z1 : (dn == 0) = false := by rw [beq_eq_false_iff_ne]; omega
            have q1 : (0 : Int) ≤ (k : Int) := by omega
            have q2 : (k : Int) < (m.length : Int) := by omega
            have hne2 := World.new_ne wr _ h3
            have z2 : 0 < dn := by omega
            have hb1 : 0 ≤ S + q := by omega
            have hb2 : S + q ≤ ((k + 1 : Nat) : Int) * 1073741824 := by omega
            have Hb2 := Lib.hid hb2
            clear hdk hgk hlo hb2 e3 s2
            go_wp2
            have g3 := (Mod.refl NoBlock wr).alloc (.cells #[.string nm, .int .i64 dn] 25) |>.cell h3 (fun h => h)
            have g1 : (wr.alloc (.cells #[.string nm, .int .i64 dn] 25)).cell? ⟨wr.heap.size, 1, Option.none⟩ = some (.int .i64 dn) := cell_new wr _ _ 1 _ rfl
            have Hal := Lib.hid (Hmr.out.alloc (.cells #[.string nm, .int .i64 dn] 25))
            generalize wr.alloc (.cells #[.string nm, .int .i64 dn] 25) = w3 at g1 g3 Hal ⊢
            clear h1 h2 h3 hne2
            go_quiet (fail)
            go_wp2
            exact ⟨⟨k + 1, S + q, by omega, by go_num, rfl, HT.out.symm, hb1, Hb2.out, Hal.out.drewN _⟩, by simp [intOf]; omega⟩
          · obtain rfl : k = l.length := by omega
            go_wp2
            go_ret2
            rw [E.out, Hl.out, ← HS.out]
            exact ⟨rfl, M2.out.trans Hmr.out⟩
      · have E := Lib.hid (show litL l m = (0, 18) by unfold litL; rw [if_pos hc, if_pos hf, if_neg hl])
        have hne : ((m.length : Int) != (l.length : Int)) = true := by rw [bne_iff_ne]; omega
        clear hc hf hl
        go_enter Try.func26, Try.ntmps26
        go_wp2_with fail
        refine Hchk.out.mono ?_; rintro e w1 ⟨rfl, m1⟩; rw [Hc.out]
        have M1 := Lib.hid m1
        have Hm1 := Lib.hid (Hm.out.frame m1)
        clear m1
        go_wp2_with (go_at_call 39; refine (check_n1 _ _ _ _ _ _ rfl Hm1.out _).mono ?_; rintro e w9 ⟨rfl, rfl⟩; rw [Hf.out])
        go_ret2
        rw [E.out]
        exact ⟨rfl, M1.out.alloc _⟩
    · have E := Lib.hid (show litL l m = (0, faultL m) by unfold litL; rw [if_pos hc, if_neg hf])
      have hne : (faultL m != 0) = true := by simpa using hf
      clear hc hf
      go_enter Try.func26, Try.ntmps26
      go_wp2_with fail
      refine Hchk.out.mono ?_; rintro e w1 ⟨rfl, m1⟩; rw [Hc.out]
      have M1 := Lib.hid m1
      have Hm1 := Lib.hid (Hm.out.frame m1)
      clear m1
      go_wp2_with (go_at_call 39; refine (check_n1 _ _ _ _ _ _ rfl Hm1.out _).mono ?_; rintro e w9 ⟨rfl, rfl⟩)
      go_ret2
      rw [E.out]
      exact ⟨rfl, M1.out.alloc _⟩
  · have E := Lib.hid (show litL l m = (0, checkM l) by unfold litL; rw [if_neg hc])
    have hne : (checkM l != 0) = true := by simpa using hc
    clear hc
    go_enter Try.func26, Try.ntmps26
    go_wp2_with (go_at_call 12; refine Hchk.out.mono ?_; rintro e w1 ⟨rfl, m1⟩; have M1 := Lib.hid m1; clear m1)
    go_ret2
    rw [E.out]
    exact ⟨rfl, M1.out⟩

set_option maxRecDepth 100000 in
set_option maxHeartbeats 1600000 in
theorem refLitres_any (a : Option Addr) (c : Nat) (l : List (ByteArray × Int)) (a2 : Option Addr) (c2 : Nat) (m : List Int) (D D2 : Nat → Prop) (w : World) (hx : Mats D w a l) (hm : Ints D2 w a2 m) :
    Calls Try.prog 27 #[.slice a l.length c, .slice a2 m.length c2] w fun e w' => e = .returned (.tuple #[.int .i64 (litL l m).1, .int .i64 (litL l m).2]) ∧ Drawn w w' := by
  have Hchk := Lib.hid (refCheck_any a c l D w hx)
  have Hx := Lib.hid hx
  have Hm := Lib.hid hm
  have hlx := hx.open.1
  have hlm := hm.open.1
  clear hx hm
  by_cases hc : checkM l = 0
  · have Hc := Lib.hid hc
    by_cases hf : faultL m = 0
    · have Hf := Lib.hid hf
      by_cases hl : m.length = l.length
      · have E := Lib.hid (show litL l m = (litTo l m m.length, 0) by unfold litL; rw [if_pos hc, if_pos hf, if_pos hl])
        have hne : ((m.length : Int) != (l.length : Int)) = false := by simp [hl]
        obtain ⟨l16, hd⟩ := checkM_dens hc
        obtain ⟨_, hg⟩ := ok_of_fault hf
        have Hd := Lib.hid hd
        have Hg := Lib.hid hg
        have hle : m.length ≤ l.length := by omega
        have Hl := Lib.hid hl
        obtain ⟨_, b, o, ha, hcl⟩ := Hx.out.open
        obtain ⟨_, b2, o2, ha2, hcl2⟩ := Hm.out.open
        have Ha := Lib.hid ha
        have Hcl := Lib.hid hcl
        have Ha2 := Lib.hid ha2
        have Hcl2 := Lib.hid hcl2
        clear ha hcl ha2 hcl2 hc hf hl hd hg
        go_enter Try.func27, Try.ntmps27
        go_wp2_with fail
        refine Hchk.out.mono ?_; rintro e w1 ⟨rfl, n0, rfl⟩; rw [Hc.out]
        go_wp2_with (go_at_call 40; refine (fault_any _ _ _ _ _ (Hm.out.drewN n0)).mono ?_; rintro e w9 ⟨rfl, rfl⟩; rw [Hf.out])
        go_loopw [8, 9] (fun s i wr => ∃ (k : Nat) (S : Int), k ≤ m.length ∧ i = .int .i64 k ∧ s = .int .i64 S ∧ S = litTo l m k ∧ 0 ≤ S ∧ S ≤ (k : Int) * 1073741824 ∧ ∃ n, wr = w.drewN n) (fun _ i _ => m.length - (intOf i).toNat)
        case atStart => exact ⟨0, 0, by omega, rfl, rfl, rfl, by omega, by omega, _, rfl⟩
        case round =>
          obtain ⟨k, S, hk, rfl, rfl, hS, s1, s2, n, rfl⟩ := hrel
          have HS := Lib.hid hS
          clear hS
          by_cases hlt : k < m.length
          · have h2 := (Hcl.out k (by omega)).2
            have h3 := Hcl2.out k hlt
            obtain rfl := Ha2.out (by intro h; simp [h] at hlt)
            obtain rfl := Ha.out (by intro h; rw [h] at hle; simp at hle; simp [hle] at hlt)
            have hdk := Hd.out k (by omega)
            have hgk := Hg.out k hlt
            have hlo := litOne_bound hgk hdk
            have HT := Lib.hid (show litTo l m (k + 1) = S + litOne (ix m k) (mx l k).2 by rw [HS.out]; rfl)
            generalize (mx l k).2 = dn at *
            generalize ix m k = v at *
            have e1 : IntKind.i64.wrap (v + dn) = v + dn := IntWalk.i64_in _ (by omega)
            have e2 : IntKind.i64.wrap (v + dn - 1) = v + dn - 1 := IntWalk.i64_in _ (by omega)
            have e3 : (v + dn - 1) / dn = litOne v dn := rfl
            have e4 : (v + dn - 1).tdiv dn = litOne v dn := by rw [Int.tdiv_eq_ediv_of_nonneg (by omega)]; rfl
            generalize litOne v dn = q at *
            have e5 : IntKind.i64.wrap (S + q) = S + q := IntWalk.i64_in _ (by omega)
            have qb1 : 0 ≤ q := hlo.1
            have qb2 : q ≤ 1073741824 := hlo.2
            have sb2 : S ≤ 17179869184 := by omega
            have z1 : (dn == 0) = false := by rw [beq_eq_false_iff_ne]; omega
            have q1 : (0 : Int) ≤ (k : Int) := by omega
            have q2 : (k : Int) < (m.length : Int) := by omega
            have q3 : (k : Int) < (l.length : Int) := by omega
            have z2 : 0 < dn := by omega
            have hb1 : 0 ≤ S + q := by omega
            have hb2 : S + q ≤ ((k + 1 : Nat) : Int) * 1073741824 := by omega
            have Hb2 := Lib.hid hb2
            clear hdk hgk hlo hb2 e3 s2
            go_wp2
            go_quiet (fail)
            go_wp2
            exact ⟨⟨k + 1, S + q, by omega, by go_num, rfl, HT.out.symm, hb1, Hb2.out, _, rfl⟩, by simp [intOf]; omega⟩
          · obtain rfl : k = m.length := by omega
            go_wp2
            go_ret2
            rw [E.out, ← HS.out]
            exact ⟨rfl, Drawn.mk _ _⟩
      · have E := Lib.hid (show litL l m = (0, 18) by unfold litL; rw [if_pos hc, if_pos hf, if_neg hl])
        have hne : ((m.length : Int) != (l.length : Int)) = true := by rw [bne_iff_ne]; omega
        clear hc hf hl
        go_enter Try.func27, Try.ntmps27
        go_wp2_with fail
        refine Hchk.out.mono ?_; rintro e w1 ⟨rfl, n0, rfl⟩; rw [Hc.out]
        go_wp2_with (go_at_call 40; refine (fault_any _ _ _ _ _ (Hm.out.drewN n0)).mono ?_; rintro e w9 ⟨rfl, rfl⟩; rw [Hf.out])
        go_ret2
        rw [E.out]
        exact ⟨rfl, Drawn.mk _ _⟩
    · have E := Lib.hid (show litL l m = (0, faultL m) by unfold litL; rw [if_pos hc, if_neg hf])
      have hne : (faultL m != 0) = true := by simpa using hf
      clear hc hf
      go_enter Try.func27, Try.ntmps27
      go_wp2_with fail
      refine Hchk.out.mono ?_; rintro e w1 ⟨rfl, n0, rfl⟩; rw [Hc.out]
      go_wp2_with (go_at_call 40; refine (fault_any _ _ _ _ _ (Hm.out.drewN n0)).mono ?_; rintro e w9 ⟨rfl, rfl⟩)
      go_ret2
      rw [E.out]
      exact ⟨rfl, Drawn.mk _ _⟩
  · have E := Lib.hid (show litL l m = (0, checkM l) by unfold litL; rw [if_neg hc])
    have hne : (checkM l != 0) = true := by simpa using hc
    clear hc
    go_enter Try.func27, Try.ntmps27
    go_wp2_with fail
    refine Hchk.out.mono ?_; rintro e w1 ⟨rfl, n0, rfl⟩
    go_wp2_with fail
    go_ret2
    rw [E.out]
    exact ⟨rfl, Drawn.mk _ _⟩

end Go.Proofs.Ytghciackhkimoaa
