/-
  camera: See on both sides, whatever the mix is; the law CameraSees walked.
-/
import Derived.Test.YtgoccfjmghhaoaaCw
import Derived.Test.YtgoccfjmghhaoaaOpen
set_option linter.unusedVariables false
set_option linter.unusedSimpArgs false
namespace Go.Proofs.Ytgoccfjmghhaoaa
open Go.RowKit

/-- What is owed behind a mix that may be refused; what is seen of it. -/
def seeN (l oss : List (List Int)) (xs : List Int) : List (List Int) := if seeE l.length xs = 0 then seeO l oss xs else oss
def seeM (l oss : List (List Int)) (xs : List Int) : List (List Int) := if seeE l.length xs = 0 then seeL l oss xs else []
theorem EyeOk.any {l oss : List (List Int)} (h : EyeOk l oss) (xs : List Int) : EyeOk l (seeN l oss xs) := by
  unfold seeN
  split
  · exact h.see xs
  · exact h

theorem see_any (lo hi p : Nat) (l oss : List (List Int)) (a : Option Addr) (c : Nat) (xs : List Int) (D : Nat → Prop) (w : World) (he : EyeAt w lo hi p l oss) (hx : Ints D w a xs) (hok : EyeOk l oss) (hD : ∀ b, D b → ¬ (lo ≤ b ∧ b < hi)) (hhi : hi ≤ w.heap.size) :
    Calls Try.prog 17 #[.pointer (some ⟨p, 0, none⟩), .slice a xs.length c] w fun e w' => ∃ a' c', e = .returned (.tuple #[.slice a' (seeM l oss xs).length c', .int .i64 (seeE l.length xs)]) ∧
      Mod (fun b => lo ≤ b ∧ b < hi) w w' ∧ EyeAt w' lo hi p l (seeN l oss xs) ∧ Mixes (fun b => w.heap.size ≤ b) w' a' (seeM l oss xs) := by
  unfold seeN seeM
  by_cases h : seeE l.length xs = 0
  · rw [if_pos h, if_pos h, seeL_length, h]
    exact see_ok lo hi p l oss a c xs D w he hx hok hD hhi h
  · rw [if_neg h, if_neg h]
    refine (see_bad lo hi p l oss a c xs D w he hx hok.few h).mono ?_
    rintro e w' ⟨rfl, m⟩
    exact ⟨none, 0, rfl, m.only, he.frame m, Mixes.nil _ _ _⟩

def RefSeen (E : Nat → Prop) (l oss : List (List Int)) (xs : List Int) (w : World) (e : Ending) (w' : World) : Prop :=
  ∃ a1 c1 a2 c2, e = .returned (.tuple #[.agg #[.slice a1 l.length c1], .slice a2 (seeM l oss xs).length c2, .int .i64 (seeE l.length xs)]) ∧ Mod NoBlock w w' ∧
    Cars (fun b => E b ∨ w.heap.size ≤ b) w' a1 l.length (rx l) (rx (seeN l oss xs)) ∧ Mixes (fun b => w.heap.size ≤ b) w' a2 (seeM l oss xs)
theorem refSee_any (ae : Option Addr) (ce : Nat) (l oss : List (List Int)) (a : Option Addr) (c : Nat) (xs : List Int) (D E : Nat → Prop) (w : World) (he : Cars E w ae l.length (rx l) (rx oss)) (hx : Ints D w a xs) (hok : EyeOk l oss) :
    Calls Try.prog 18 #[.agg #[.slice ae l.length ce], .slice a xs.length c] w (RefSeen E l oss xs w) := by
  unfold RefSeen seeN seeM
  by_cases h : seeE l.length xs = 0
  · rw [if_pos h, if_pos h, seeL_length, h]
    refine (refSee_ok ae ce l oss a c xs D E w he hx hok h).mono ?_
    rintro e w' ⟨a1, c1, a2, c2, rfl, m, h1, h2⟩
    exact ⟨a1, c1, a2, c2, rfl, m, h1.mono fun _ _ h => .inr h, h2⟩
  · rw [if_neg h, if_neg h]
    refine (refSee_bad ae ce l.length a c xs D w hx hok.few h).mono ?_
    rintro e w' ⟨rfl, m⟩
    exact ⟨ae, ce, none, 0, rfl, m, (he.frame m).mono fun _ _ h => .inl h, Mixes.nil _ _ _⟩

set_option maxRecDepth 100000 in
set_option maxHeartbeats 3200000 in
theorem camSees_fin (a : Option Addr) (c : Nat) (l : List (List Int)) {w : World} (hx : Mixes Any w a l) (_ : l.length ≤ c) (_ : ∀ k y, y ∈ rx l k → I64 y) (a2 : Option Addr) (c2 : Nat) (xs : List (List Int)) (hp : Mixes Any w a2 xs) (_ : xs.length ≤ c2) (_ : ∀ k y, y ∈ rx xs k → I64 y) (_ : World) :
    Calls Try.prog 4 #[.agg #[.slice a l.length c], .slice a2 xs.length c2] w fun e w' => e = .returned (.bool true) ∧ Mod NoBlock w w' := by
  have m0 := (Mod.refl NoBlock w).alloc (.cells #[.slice a l.length c] 24)
  have HX := Lib.hid (hx.frame m0)
  have HPw := Lib.hid (hp.mono (D' := fun b => b < w.heap.size) fun b hb _ => hb)
  have HP := Lib.hid (HPw.out.frame m0)
  have M := Lib.hid m0
  have hB := cell_new w #[.slice a l.length c] 24 0 _ rfl
  have hlp := hp.1
  have hll := hx.1
  unfold maxLen at hlp hll
  have hbw : w.heap.size < (w.alloc (.cells #[.slice a l.length c] 24)).heap.size := by simp
  clear hx hp m0
  go_enter Try.func4, Try.ntmps4
  go_wp2_with fail
  generalize w.alloc (.cells #[.slice a l.length c] 24) = w0 at HX HP M hB hbw ⊢
  refine (great_some _ _ _ _ _ HX.out).mono ?_
  rintro e w1 ⟨b, rfl, m1⟩
  replace hbw := Nat.lt_of_lt_of_le hbw m1.size
  replace M := Lib.hid (M.out.trans m1); replace HX := Lib.hid (HX.out.frame m1); replace HP := Lib.hid (HP.out.frame m1); replace hB := m1.cell hB id; clear m1
  cases b
  · go_wp2_with fail
    refine (long_some _ _ _ _ _ (HP.out)).mono ?_
    rintro e w2 ⟨b, rfl, -, rfl⟩
    cases b
    · by_cases h : camE l l.length = 0
      · have H := Lib.hid h
        obtain ⟨l1, l16, -, hrow, hlen⟩ := cam_ok h
        have Hok := Lib.hid (EyeOk.new h)
        have H4 := Lib.hid (show ∀ k, k < l.length → (rx l k).length ≤ 4 from fun k hk => (row_ok (hrow k hk)).2.1)
        clear h hrow hlen
        go_wp2_with fail
        refine (refCam_any _ _ _ _ _ _ HX.out).mono ?_
        rw [H.out]
        rintro e w3 ⟨rfl, m1⟩
        replace hbw := Nat.lt_of_lt_of_le hbw m1.size
        replace M := Lib.hid (M.out.trans m1); replace HX := Lib.hid (HX.out.frame m1); replace HP := Lib.hid (HP.out.frame m1); replace hB := m1.cell hB id; clear m1
        go_wp2_with fail
        refine (camNew_ok _ _ _ _ _ _ HX.out H.out).mono ?_
        rintro e w4 ⟨p, rfl, m1, he⟩
        obtain ⟨lo, hlo⟩ : ∃ lo, w3.heap.size = lo := ⟨_, rfl⟩
        obtain ⟨hi, hhi⟩ : ∃ hi, w4.heap.size = hi := ⟨_, rfl⟩
        rw [hlo, hhi] at he
        have hlh : lo ≤ hi := by rw [← hlo, ← hhi]; exact m1.size
        replace hbw : w.heap.size < lo := by omega
        have HY := Lib.hid he
        replace M := Lib.hid (M.out.trans m1); replace HX := Lib.hid (HX.out.frame m1); replace HP := Lib.hid (HP.out.frame m1); replace hB := m1.cell hB id; clear m1 he hlo
        go_wp2_with fail
        refine (refNew_any _ _ _ _ _ HX.out l16 H4.out).mono ?_
        rintro e w5 ⟨ae, ce, rfl, m1, hcars⟩
        rw [hhi] at hcars
        have hs5 : hi ≤ w5.heap.size := by rw [← hhi]; exact m1.size
        replace M := Lib.hid (M.out.trans m1); replace HP := Lib.hid (HP.out.frame m1); replace HY := Lib.hid (HY.out.frame m1)
        have HCa := Lib.hid (hcars.congr (OS' := rx (zeros l)) (fun _ _ => rfl) (fun k hk => (rx_zeros hk).symm))
        clear m1 hcars HX hB hhi
        go_wp2
        have hrow := rowIs_new w5 #[.slice ae l.length ce] 37
        have hHY := HY.out.frame ((Mod.refl NoBlock w5).alloc (.cells #[.slice ae l.length ce] 37))
        have hHC := (HCa.out.mono (D' := fun b => hi ≤ b ∧ b ≠ w5.heap.size) fun b hb h => ⟨h, by omega⟩).frame ((Mod.refl NoBlock w5).alloc (.cells #[.slice ae l.length ce] 37))
        replace M := Lib.hid (M.out.alloc (.cells #[.slice ae l.length ce] 37))
        have Hrow := Lib.hid hrow
        replace HY := Lib.hid hHY
        have HC := Lib.hid hHC
        clear hrow hHY hHC HCa
        generalize w5.alloc (.cells #[.slice ae l.length ce] 37) = wY at Hrow HY HC M ⊢
        generalize w5.heap.size = Y at Hrow HC hs5 ⊢
        go_loopw [8, 9, 10, 11, 12, 13] (fun i v1 v2 v3 v4 v5 wr => ∃ (k : Nat) (ae : Option Addr) (ce : Nat) (oss : List (List Int)), k ≤ xs.length ∧ i = .int .i64 k ∧ Mod NoBlock w wr ∧ wr.rowIs Y 37 1 (fun j => (#[.slice ae l.length ce] : Array Value).getD j undef) ∧
            Cars (fun b => hi ≤ b ∧ b ≠ Y) wr ae l.length (rx l) (rx oss) ∧ EyeAt wr lo hi p l oss ∧ EyeOk l oss) (fun i _ _ _ _ _ _ => xs.length - (intOf i).toNat)
        case atStart => exact ⟨0, ae, ce, zeros l, by omega, rfl, M.out, Hrow.out, HC.out, HY.out, Hok.out⟩
        case round =>
          clear M Hrow HC HY Hok HP wY
          obtain ⟨k, ae, ce, oss, hk, rfl, hm, hrow, hcars, hey, hok⟩ := hrel
          have M := Lib.hid hm
          have Hrow := Lib.hid hrow
          have HC := Lib.hid hcars
          have HY := Lib.hid hey
          have Hok := Lib.hid hok
          clear hm hrow hcars hey hok
          by_cases hlt : k < xs.length
          · obtain ⟨_, b, off, ha, hcl⟩ := (HPw.out.frame M.out).open
            obtain ⟨ar, cr, h1, hir⟩ := hcl k hlt
            obtain rfl := ha (by intro e; subst e; simp at hlt)
            have HR := Lib.hid (show Ints (fun b => b < w.heap.size) wr ar (rx xs k) from hir)
            have hlr := hir.1
            unfold maxLen at hlr
            have hYs := Hrow.out.lt
            have hbb : b < w.heap.size := by
              obtain ⟨b2, o2, e2, hD2, _⟩ := (HPw.out.frame M.out).2 (by intro e; subst e; simp at hlt)
              simp only [Option.some.injEq, Addr.mk.injEq, and_true] at e2
              rw [e2.1]; exact hD2
            have k0 : (0 : Int) ≤ (k : Int) := by omega
            have kx : (k : Int) < (xs.length : Int) := by omega
            clear ha hcl hir
            go_wp2_with fail
            refine (see_any lo hi p l oss ar cr (rx xs k) (fun b => b < w.heap.size) wr HY.out HR.out Hok.out (fun b h => by omega) (by omega)).mono ?_
            rintro e wo ⟨al, cl, rfl, m, hey, hl⟩
            have hsz := m.size
            replace M := Lib.hid (M.out.step m fun b hb h => by omega)
            replace HR := Lib.hid (HR.out.mod m fun b _ h h2 => by omega)
            have h2 : wo.cell? ⟨b, off + k, none⟩ = some (.slice ar (rx xs k).length cr) := m.cell h1 (by show ¬ (lo ≤ b ∧ b < hi); omega)
            replace Hrow := Lib.hid (Hrow.out.of_block (m.block Y hYs (by omega)))
            replace HC := Lib.hid ((HC.out.mod m fun b _ h h2 => by omega).mono (D' := fun b => (hi ≤ b ∧ b ≠ Y) ∧ b < wo.heap.size) fun b hb h => ⟨h, hb⟩)
            replace HY := Lib.hid hey
            have HL := Lib.hid hl
            have c9 : wo.cell? ⟨Y, 0, none⟩ = some (.slice ae l.length ce) := Hrow.out.cell (by omega)
            have hYo : Y < wo.heap.size := by omega
            have hbo : b < wo.heap.size := World.block_lt_of_cell? _ _ h2
            clear m hey hl h1
            go_wp2
            go_region_held3 (fun w' => w'.cell? ⟨Y, 0, none⟩ = some (.slice ae l.length ce) ∧ w'.cell? ⟨b, off + k, none⟩ = some (.slice ar (rx xs k).length cr))
              (first
                | go_keep
                | (go_split_ands
                   exact ⟨s0, s1⟩)
                | (go_split_ands
                   exact ⟨((Mod.refl NoBlock w6).alloc _).cell s0 (fun h => h), ((Mod.refl NoBlock w6).alloc _).cell s1 (fun h => h)⟩)
                | (go_split_ands
                   exact ⟨((Mod.refl (fun b => b = wo.heap.size) w6).set1 0 _).cell s0 (by simp; omega), ((Mod.refl (fun b => b = wo.heap.size) w6).set1 0 _).cell s1 (by simp; omega)⟩))
              (first
                | (go_at_call 18; refine (refSee_any ae ce l oss ar cr (rx xs k) (fun b => b < w.heap.size) (fun b => (hi ≤ b ∧ b ≠ Y) ∧ b < wo.heap.size) _ (by exact HC.out) (by exact HR.out) Hok.out).mono ?_; rintro e w6 ⟨a1, c1, a3, c3, rfl, hmc, hcs, hmx⟩
                   have s0 : w6.cell? ⟨Y, 0, none⟩ = some (.slice ae l.length ce) := hmc.cell (by exact c9) (fun h => h)
                   have s1 : w6.cell? ⟨b, off + k, none⟩ = some (.slice ar (rx xs k).length cr) := hmc.cell (by exact h2) (fun h => h)
                   have hmr : Mod NoBlock wo w6 := hmc.undrew)
                | (go_at_call 18; refine (refSee_any ae ce l oss ar cr (rx xs k) (fun b => b < w.heap.size) (fun b => (hi ≤ b ∧ b ≠ Y) ∧ b < wo.heap.size) _ (by exact HC.out.frame ((Mod.refl NoBlock wo).alloc _).drew) (by exact HR.out.alloc _) Hok.out).mono ?_; rintro e w6 ⟨a1, c1, a3, c3, rfl, hmc, hcs, hmx⟩
                   have hmr : Mod NoBlock wo w6 := ((Mod.refl NoBlock wo).alloc _).trans hmc.undrew
                   have s0 : w6.cell? ⟨Y, 0, none⟩ = some (.slice ae l.length ce) := hmr.cell (by exact c9) (fun h => h)
                   have s1 : w6.cell? ⟨b, off + k, none⟩ = some (.slice ar (rx xs k).length cr) := hmr.cell (by exact h2) (fun h => h)
                   have zb : w6.rowIs wo.heap.size 37 1 (fun i => (#[.slice none 0 0] : Array Value).getD i undef) := (rowIs_new wo #[.slice none 0 0] 37).of_block (hmc.block _ (by simp) (fun h => h))
                   have z0 : w6.cell? ⟨wo.heap.size, 0, Option.none⟩ = some (.slice none 0 0) := zb.cell (by omega)
                   have z2 : w6.frozen? ⟨wo.heap.size, 0, Option.none⟩ = false := zb.frozen 0))
            all_goals first
              | (have hm6 : Mod (fun b => b = wo.heap.size) w6 (w6.setCell ⟨wo.heap.size, 0, none⟩ (.slice a1 l.length c1)) := (Mod.refl _ w6).set1 0 _
                 have hT : (w6.setCell ⟨wo.heap.size, 0, none⟩ (.slice a1 l.length c1)).rowIs wo.heap.size 37 1 (fun j => (#[.slice a1 l.length c1] : Array Value).getD j undef) := by
                   refine (zb.set 0 _).congr fun j hj => ?_
                   obtain rfl : j = 0 := by omega
                   rfl
                 have hmW : Mod NoBlock wo (w6.setCell ⟨wo.heap.size, 0, none⟩ (.slice a1 l.length c1)) := hmr.setCell (p := ⟨wo.heap.size, 0, none⟩) (.inr (Nat.le_refl _)) _
                 have hcars := (hcs.mono (D' := fun b => hi ≤ b ∧ b ≠ Y ∧ b ≠ wo.heap.size) (fun b _ h => by
                   rcases h with h | h
                   · exact ⟨h.1.1, h.1.2, by omega⟩
                   · simp at h; exact ⟨by omega, by omega, by omega⟩)).mod hm6 (fun b _ h e => h.2.2 e)
                 have hms := (hmx.mono (D' := fun b => wo.heap.size + 1 ≤ b) (fun b _ h => by simpa using h)).mod hm6 (fun b _ h e => by omega)
                 have hms := hms.mono (D' := fun b => wo.heap.size ≤ b) (fun b _ h => Nat.le_of_succ_le h)
                 clear zb z0 z2 hmr hmc hcs hmx s0 s1 hm6
                 generalize w6.setCell ⟨wo.heap.size, 0, none⟩ (.slice a1 l.length c1) = W at hT hmW hcars hms ⊢
                 obtain ⟨t, ht⟩ : ∃ t, wo.heap.size = t := ⟨_, rfl⟩
                 have htY : t ≠ Y := by omega
                 rw [ht] at hT hcars ⊢)
              | (have hT := rowIs_new w6 #[.slice a1 l.length c1] 37
                 have hmW := hmr.alloc (.cells #[.slice a1 l.length c1] 37)
                 have hs6 : wo.heap.size ≤ w6.heap.size := hmr.size
                 have hcars := (hcs.mono (D' := fun b => hi ≤ b ∧ b ≠ Y ∧ b ≠ w6.heap.size) (fun b hb h => by
                   rcases h with h | h
                   · exact ⟨h.1.1, h.1.2, by omega⟩
                   · have h : wo.heap.size ≤ b := h
                     exact ⟨by omega, by omega, by omega⟩)).frame ((Mod.refl NoBlock w6).alloc (.cells #[.slice a1 l.length c1] 37))
                 have hms := (hmx.alloc (.cells #[.slice a1 l.length c1] 37)).mono (D' := fun b => wo.heap.size ≤ b) (fun b _ h => h)
                 clear hmr hmc hcs hmx s0 s1
                 generalize w6.alloc (.cells #[.slice a1 l.length c1] 37) = W at hT hmW hcars hms ⊢
                 obtain ⟨t, ht⟩ : ∃ t, w6.heap.size = t := ⟨_, rfl⟩
                 have htY : t ≠ Y := by omega
                 have hT : W.rowIs t 37 1 (fun j => (#[.slice a1 l.length c1] : Array Value).getD j undef) := by rw [← ht]; exact hT
                 rw [ht] at hcars ⊢)
            all_goals
              have HT := Lib.hid hT
              have HC2 := Lib.hid hcars
              have HS := Lib.hid hms
              have HLW := Lib.hid (HL.out.frame hmW)
              have HYW := Lib.hid (HY.out.frame hmW)
              have HrowW := Lib.hid (Hrow.out.of_block (hmW.block Y hYo id))
              replace M := Lib.hid (M.out.trans hmW)
              clear hT hcars hms hmW c9 h2 HL HY Hrow HC ht
              go_wp2_with fail
              refine (sameAll_any _ _ cl c3 (seeM l oss (rx xs k)) (seeM l oss (rx xs k)) _ _ _ HLW.out HS.out).mono ?_
              rw [decide_eq_true (rfl : seeM l oss (rx xs k) = seeM l oss (rx xs k))]
              rintro e w7 ⟨rfl, nd, rfl⟩
              have t0 : (W.drewN nd).cell? ⟨t, 0, none⟩ = some (.slice a1 l.length c1) := HT.out.cell (by omega)
              have t1 : (W.drewN nd).frozen? ⟨Y, 0, none⟩ = false := HrowW.out.frozen 0
              have t2 : (W.drewN nd).cell? ⟨Y, 0, none⟩ = some (.slice ae l.length ce) := HrowW.out.cell (by omega)
              go_wp2
              have hm8 : Mod NoBlock w ((W.drewN nd).setCell ⟨Y, 0, none⟩ (.slice a1 l.length c1)) := (M.out.drewN nd).setCell (p := ⟨Y, 0, none⟩) (.inr (by show w.heap.size ≤ Y; omega)) _
              have hr8 : ((W.drewN nd).setCell ⟨Y, 0, none⟩ (.slice a1 l.length c1)).rowIs Y 37 1 (fun j => (#[.slice a1 l.length c1] : Array Value).getD j undef) := by
                refine (World.rowIs.set (w := W.drewN nd) HrowW.out 0 _).congr fun j hj => ?_
                obtain rfl : j = 0 := by omega
                rfl
              have ms : Mod (fun b => b = Y) W ((W.drewN nd).setCell ⟨Y, 0, none⟩ (.slice a1 l.length c1)) := ((Mod.refl _ W).drewN nd).set1 0 _
              exact ⟨⟨k + 1, a1, c1, seeN l oss (rx xs k), by omega, by go_num, hm8, hr8, (HC2.out.mod ms (fun b _ h e => h.2.1 e)).mono (fun b _ h => ⟨h.1, h.2.1⟩), HYW.out.mod ms (fun b h1 h2 e => by omega), Hok.out.any _⟩, by simp [intOf]; omega⟩
          · replace M := Lib.hid M.out
            clear Hrow HC HY Hok
            go_wp2_with fail
            refine (awakeC_any _).mono ?_; rintro e w9 ⟨rfl, m⟩; have M := Lib.hid (M.out.trans m); clear m
            go_wp2
            go_ret
            exact ⟨rfl, M.out⟩
      · have hne : (camE l l.length != 0) = true := by simpa using h
        clear h
        go_wp2_with fail
        refine (refCam_any _ _ _ _ _ _ HX.out).mono ?_
        rintro e w3 ⟨rfl, m1⟩
        replace M := Lib.hid (M.out.trans m1); clear m1 hB HX HP
        go_wp2_with fail
        refine (awakeC_any _).mono ?_; rintro e w9 ⟨rfl, m⟩; have M := Lib.hid (M.out.trans m); clear m
        go_wp2
        go_ret
        exact ⟨rfl, M.out⟩
    · clear hB HX HP
      go_wp2_with fail
      refine (awakeC_any _).mono ?_; rintro e w9 ⟨rfl, m⟩; have M := Lib.hid (M.out.trans m); clear m
      go_wp2
      go_ret
      exact ⟨rfl, M.out⟩
  · clear hB HX HP
    go_wp2_with fail
    refine (awakeC_any _).mono ?_; rintro e w9 ⟨rfl, m⟩; have M := Lib.hid (M.out.trans m); clear m
    go_wp2
    go_ret
    exact ⟨rfl, M.out⟩

end Go.Proofs.Ytgoccfjmghhaoaa
