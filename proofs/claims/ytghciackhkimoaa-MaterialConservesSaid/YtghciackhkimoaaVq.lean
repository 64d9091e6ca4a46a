/-
  material.Divide.
-/
import Derived.Test.YtghciackhkimoaaVp
import Derived.Test.YtghciackhkimoaaVc
set_option linter.unusedVariables false
set_option linter.unusedSimpArgs false
namespace Go.Proofs.Ytghciackhkimoaa
open Go.RowKit

/-- The parts of a mix. -/
def partsL (xs : List Int) (n : Nat) : List (List Int) := (List.range n).map fun k => xs.map fun x => partN n x k
theorem partsL_length (xs : List Int) (n : Nat) : (partsL xs n).length = n := by simp [partsL]
theorem rx_partsL {xs : List Int} {n k : Nat} (h : k < n) : rx (partsL xs n) k = xs.map fun x => partN n x k := by simp [rx, partsL, h]
theorem ix_part {xs : List Int} {n k j : Nat} (h : k < n) (hj : j < xs.length) : ix (rx (partsL xs n) k) j = partN n (ix xs j) k := by
  rw [rx_partsL h, ix_eq (by simpa using hj), ix_eq hj]; simp
def divL (xs : List Int) (n : Int) : List (List Int) × Int := if faultL xs = 0 then if n < 1 ∨ 64 < n then ([], 1) else (partsL xs n.toNat, 0) else ([], faultL xs)

/-- What a call returns that gives a list of mixes in new memory, and an error number. -/
def MixesErr (r : List (List Int) × Int) (w : World) (e : Ending) (w' : World) : Prop :=
  ∃ a' c', e = .returned (.tuple #[.slice a' r.1.length c', .int .i64 r.2]) ∧ r.1.length ≤ c' ∧ Mod NoBlock w w' ∧ Mixes (fun b => w.heap.size ≤ b) w' a' r.1

set_option maxRecDepth 100000 in
set_option maxHeartbeats 1600000 in
theorem matDivide_any (a : Option Addr) (c : Nat) (xs : List Int) (n : Int) (D : Nat → Prop) (w : World) (hx : Ints D w a xs) :
    Calls Try.prog 28 #[.slice a xs.length c, .int .i64 n] w (MixesErr (divL xs n) w) := by
  have Hc := Lib.hid (check_n1 a xs.length c xs D w rfl hx)
  have hlx := hx.open.1
  by_cases hf : faultL xs = 0
  · have Hf := Lib.hid hf
    by_cases hlo : n < 1
    · have E := Lib.hid (show divL xs n = ([], 1) by unfold divL; rw [if_pos hf, if_pos (.inl hlo)])
      clear hx hf
      go_enter Try.func28, Try.ntmps28
      go_wp2_with (go_at_call 39; refine (Hc.out _).mono ?_; rintro e w9 ⟨rfl, rfl⟩; rw [Hf.out])
      go_ret2
      rw [E.out]
      exact ⟨Option.none, 0, rfl, Nat.le_refl _, (Mod.refl _ _).alloc _, Mixes.nil _ _ _⟩
    by_cases hhi : 64 < n
    · have E := Lib.hid (show divL xs n = ([], 1) by unfold divL; rw [if_pos hf, if_pos (.inr hhi)])
      clear hx hf
      go_enter Try.func28, Try.ntmps28
      go_wp2_with (go_at_call 39; refine (Hc.out _).mono ?_; rintro e w9 ⟨rfl, rfl⟩; rw [Hf.out])
      go_ret2
      rw [E.out]
      exact ⟨Option.none, 0, rfl, Nat.le_refl _, (Mod.refl _ _).alloc _, Mixes.nil _ _ _⟩
    · obtain ⟨N, rfl⟩ : ∃ N : Nat, n = N := ⟨n.toNat, by omega⟩
      have E := Lib.hid (show divL xs N = (partsL xs N, 0) by unfold divL; rw [if_pos hf, if_neg (by omega)]; rfl)
      obtain ⟨l16, hg⟩ := ok_of_fault hf
      have Hg := Lib.hid hg
      have Hx := Lib.hid hx
      have hmk := run_make_row' (P := Try.prog) 42 30 (.slice Option.none 0 0) 24 Try.underlying42 infoMix rfl .i64 .i64 N (by omega) (by omega)
      have hmk2 := run_make_row' (P := Try.prog) 30 3 (.int .i64 0) 8 Try.underlying30 infoInt rfl .i64 .i64 xs.length (by omega) (by omega)
      clear hx hf hg
      go_enter Try.func28, Try.ntmps28
      go_wp2_with (go_at_call 39; refine (Hc.out _).mono ?_; rintro e w9 ⟨rfl, rfl⟩; rw [Hf.out])
      have hrow0 := World.rowIs_made (w.alloc (.cells #[.slice a xs.length c] 30)) (.slice Option.none 0 0) N 30
      rw [World.size_alloc] at hrow0
      have Hrow0 := Lib.hid hrow0
      clear hrow0 Hc
      have n1 : (1 : Int) ≤ N := by omega
      have n2 : (N : Int) ≤ 64 := by omega
      go_loopw [8, 31] (fun u i wr => ∃ k : Nat, k ≤ N ∧ i = .int .i64 k ∧ Mod NoBlock w wr ∧ Grid wr w.heap.size wr.heap.size (w.heap.size + 1) N k xs.length (fun _ _ => 0)) (fun _ i _ => N - (intOf i).toNat)
      case atStart => exact ⟨0, by omega, rfl, ((Mod.refl _ _).alloc _).alloc _, ⟨_, fun _ => 0, Hrow0.out, fun k hk => absurd hk (by omega), fun k k' hk => absurd hk (by omega)⟩⟩
      case round =>
        obtain ⟨k, hk, rfl, hm, hgr⟩ := hrel
        have Hm := Lib.hid hm
        have Hgr := Lib.hid hgr
        clear hm hgr
        by_cases hlt : k < N
        · obtain ⟨hst, hfz⟩ : wr.cell? ⟨w.heap.size + 1, k, Option.none⟩ ≠ none ∧ wr.frozen? ⟨w.heap.size + 1, k, Option.none⟩ = false := by
            obtain ⟨f, g, h1, _⟩ := Hgr.out
            exact ⟨by rw [h1.cell hlt]; simp, h1.frozen k⟩
          obtain ⟨v0, hst⟩ := Option.ne_none_iff_exists'.1 hst
          have hblt : w.heap.size + 1 < wr.heap.size := World.block_lt_of_cell? _ _ hst
          go_wp2
          refine ⟨⟨k + 1, by omega, by go_num, (Hm.out.setCell (p := ⟨w.heap.size + 1, k, Option.none⟩) (.inr (Nat.le_succ _)) _).alloc _, ?_⟩, by simp [intOf]; omega⟩
          exact (Hgr.out.step hlt Hm.out.size).same fun k' j _ _ => by simp
        · obtain rfl : k = N := by omega
          go_wp2
          have hF0 : ∀ k', k' < k → ∀ j, j < xs.length → (fun (_ _ : Nat) => (0 : Int)) k' j = if j < 0 then partN k (ix xs j) k' else 0 := fun _ _ _ _ => rfl
          have HF0 := Lib.hid hF0
          clear hF0
          go_loopw [43] (fun i wr => ∃ (i' : Nat) (F : Nat → Nat → Int), i' ≤ xs.length ∧ i = .int .i64 i' ∧ Mod NoBlock w wr ∧ Grid wr w.heap.size wr.heap.size (w.heap.size + 1) k k xs.length F ∧ ∀ k', k' < k → ∀ j, j < xs.length → F k' j = if j < i' then partN k (ix xs j) k' else 0) (fun i _ => xs.length - (intOf i).toNat)
          case atStart => exact ⟨0, _, by omega, rfl, Hm.out, Hgr.out, HF0.out⟩
          case round =>
            obtain ⟨i, F, hi, rfl, hm2, hg2, hF⟩ := hrel
            have Hm2 := Lib.hid hm2
            have Hg2 := Lib.hid hg2
            have HF := Lib.hid hF
            clear hm2 hg2 hF
            by_cases hil : i < xs.length
            · obtain ⟨_, b, o, ha, hcl⟩ := (Hx.out.frame Hm2.out).open
              have hcell := hcl i hil
              obtain rfl := ha (by intro h; simp [h] at hil)
              obtain ⟨x0, x1⟩ := Hg.out i hil
              obtain ⟨x, hxd⟩ : ∃ x, ix xs i = x := ⟨_, rfl⟩
              rw [hxd] at hcell x0 x1
              have Hxd := Lib.hid hxd
              have Hev := Lib.hid (fun w' => even_any x k x0 x1 (by omega) (by omega) w')
              clear ha hcl hxd
              go_wp2_with fail
              refine (Hev.out _).mono ?_; rintro e w4 ⟨rfl, m4, h4⟩
              have M4 := Lib.hid (Hm2.out.trans m4)
              have H4 := Lib.hid h4
              have G4 := Lib.hid (Hg2.out.mod m4)
              have htop := m4.size
              obtain ⟨wo, rfl⟩ : ∃ wo : World, wo = wr := ⟨_, rfl⟩
              have HF1 := Lib.hid (fun k' (hk' : k' < k) j (hj : j < xs.length) => (show F k' j = if j < i ∨ (j = i ∧ k' < 0) then partN k (ix xs j) k' else 0 by
                rw [HF.out k' hk' j hj]; simp))
              clear m4 h4 Hm2 Hg2 HF
              go_wp2
              go_loopw [59] (fun u wr => ∃ (q : Nat) (F : Nat → Nat → Int), q ≤ k ∧ u = .int .i64 q ∧ Mod NoBlock w wr ∧ wo.heap.size ≤ wr.heap.size ∧ Ints (fun b => wo.heap.size ≤ b) wr (some ⟨wo.heap.size, 0, Option.none⟩) (evenL k x) ∧ Grid wr w.heap.size wo.heap.size (w.heap.size + 1) k k xs.length F ∧ ∀ k', k' < k → ∀ j, j < xs.length → F k' j = if j < i ∨ (j = i ∧ k' < q) then partN k (ix xs j) k' else 0) (fun u _ => k - (intOf u).toNat)
              case atStart => exact ⟨0, F, by omega, rfl, M4.out, htop, H4.out, G4.out, HF1.out⟩
              case round =>
                obtain ⟨q, F2, hq, rfl, hm5, hs5, hp5, hg5, hF5⟩ := hrel
                have Hm5 := Lib.hid hm5
                have Hp5 := Lib.hid hp5
                have Hg5 := Lib.hid hg5
                have HF5 := Lib.hid hF5
                clear hm5 hp5 hg5 hF5
                by_cases hqk : q < k
                · obtain ⟨_, b2, o2, ha2, hcl2⟩ := Hp5.out.open
                  have hcell2 := hcl2 q (by rw [evenL_length]; exact hqk)
                  have hao := ha2 (by intro h; have := evenL_length k x; rw [h] at this; simp at this; omega)
                  injection hao with hao
                  injection hao with hb2 ho2
                  subst hb2; subst ho2
                  rw [ix_evenL hqk, Nat.zero_add] at hcell2
                  obtain ⟨g, k1, k2, k3, k4, k5, k6, k7⟩ := Hg5.out.at hqk (Nat.le_refl _) hil (Nat.le_succ _)
                  have K7 := Lib.hid k7
                  have Hxp := Lib.hid (show partN k (ix xs i) q = partN k x q by rw [Hxd.out])
                  obtain ⟨pv, hpv⟩ : ∃ pv, partN k x q = pv := ⟨_, rfl⟩
                  rw [hpv] at hcell2
                  have Hpv := Lib.hid hpv
                  clear ha2 hcl2 k7 hpv
                  go_wp2
                  have hx9 := (Hp5.out.mod ((Mod.refl (fun b => b = g) wr).set1 i (.int .i64 pv)) fun b _ hb e => by omega)
                  refine ⟨⟨q + 1, _, by omega, by go_num, Hm5.out.setCell (p := ⟨g, i, Option.none⟩) (.inr k2) _, by simp [World.setCell]; omega, hx9, K7.out pv, fun k' hk' j hj => ?_⟩, by simp [intOf]; omega⟩
                  show (if k' = q ∧ j = i then pv else F2 k' j) = _
                  by_cases hc : k' = q ∧ j = i
                  · obtain ⟨rfl, rfl⟩ := hc
                    rw [if_pos ⟨rfl, rfl⟩, if_pos (.inr ⟨rfl, by omega⟩), Hxp.out, Hpv.out]
                  · rw [if_neg hc, HF5.out k' hk' j hj]
                    by_cases hd : j < i ∨ (j = i ∧ k' < q)
                    · rw [if_pos hd, if_pos (by omega)]
                    · rw [if_neg hd, if_neg (by omega)]
                · obtain rfl : q = k := by omega
                  go_wp2
                  refine ⟨⟨i + 1, F2, by omega, by go_num, Hm5.out, Hg5.out.up hs5, fun k' hk' j hj => ?_⟩, by simp [intOf]; omega⟩
                  rw [HF5.out k' hk' j hj]
                  by_cases hd : j < i ∨ (j = i ∧ k' < q)
                  · rw [if_pos hd, if_pos (by omega)]
                  · rw [if_neg hd, if_neg (by omega)]
            · obtain rfl : i = xs.length := by omega
              go_wp2
              go_ret2
              rw [E.out]
              refine ⟨some ⟨w.heap.size + 1, 0, Option.none⟩, k, by rw [partsL_length]; rfl, by rw [partsL_length]; exact Nat.le_refl _, Hm2.out, ?_⟩
              refine Hg2.out.mixes (partsL xs k) (Nat.le_succ _) (by simp only [maxLen]; omega) (by simp only [maxLen]; omega) (partsL_length _ _) fun k' hk' => ⟨by rw [rx_partsL hk']; simp, fun j hj => ?_⟩
              rw [ix_part hk' hj, HF.out k' hk' j hj, if_pos hj]
  · have E := Lib.hid (show divL xs n = ([], faultL xs) by unfold divL; rw [if_neg hf])
    have hne : (faultL xs != 0) = true := by simpa using hf
    clear hx hf
    go_enter Try.func28, Try.ntmps28
    go_wp2_with (go_at_call 39; refine (Hc.out _).mono ?_; rintro e w9 ⟨rfl, rfl⟩)
    go_ret2
    rw [E.out]
    exact ⟨Option.none, 0, rfl, Nat.le_refl _, (Mod.refl _ _).alloc _, Mixes.nil _ _ _⟩

end Go.Proofs.Ytghciackhkimoaa
