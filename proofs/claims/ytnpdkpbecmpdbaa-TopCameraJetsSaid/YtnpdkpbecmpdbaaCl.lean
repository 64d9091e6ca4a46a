/-
  camera.New.
-/
import Derived.Test.YtnpdkpbecmpdbaaCk
set_option linter.unusedVariables false
set_option linter.unusedSimpArgs false
namespace Go.Proofs.Ytnpdkpbecmpdbaa
open Go.RowKit

theorem rowsE_all {l : List (List Int)} (h : rowsE l = 0) : ∀ k, k < l.length → rowE (rx l k) = 0 := by
  induction l with
  | nil => intro k hk; exact absurd hk (by simp)
  | cons x r ih =>
    unfold rowsE at h
    split at h
    · next hx =>
      intro k hk
      cases k with
      | zero => exact hx
      | succ k => exact ih h k (by simpa using hk)
    · next hx => exact absurd h hx
/-- What a camera that Check accepts is like. -/
theorem cam_ok {l : List (List Int)} {m : Int} (h : camE l m = 0) : 1 ≤ l.length ∧ l.length ≤ 16 ∧ (l.length : Int) = m ∧ (∀ k, k < l.length → rowE (rx l k) = 0) ∧ ∀ k, k < l.length → (rx l k).length = (rx l 0).length := by
  unfold camE at h
  split at h
  · exact absurd h (by decide)
  · split at h
    · exact absurd h (by decide)
    · split at h
      · next h3 => exact absurd h h3
      · next h1 h2 h3 =>
        split at h
        · exact absurd h (by decide)
        · next h4 =>
          have h3 : rowsE l = 0 := by omega
          refine ⟨by omega, by omega, by omega, rowsE_all h3, fun k hk => ?_⟩
          have h4 : oddB (rx l 0).length l = false := by simpa using h4
          unfold oddB at h4
          rw [List.any_eq_false] at h4
          have := h4 (rx l k) (by rw [rx_eq hk]; exact List.getElem_mem hk)
          simpa using this

set_option maxRecDepth 100000 in
set_option maxHeartbeats 1600000 in
theorem camNew_bad (a : Option Addr) (c : Nat) (l : List (List Int)) (m : Int) (D : Nat → Prop) (w : World) (hx : Mixes D w a l) (h : ¬ camE l m = 0) :
    Calls Try.prog 8 #[.agg #[.slice a l.length c], .int .i64 m] w fun e w' => e = .returned (.tuple #[.pointer none, .int .i64 (camE l m)]) ∧ Mod NoBlock w w' := by
  have M0 := Lib.hid ((Mod.refl NoBlock w).alloc (.cells #[.slice a l.length c] 24))
  have HX := Lib.hid (hx.frame M0.out)
  have hne : (camE l m != 0) = true := by simpa using h
  clear hx h
  go_enter Try.func8, Try.ntmps8
  go_wp2_with fail
  generalize w.alloc (.cells #[.slice a l.length c] 24) = w0 at M0 HX ⊢
  refine (camCheck_any _ _ _ _ _ _ HX.out).mono ?_
  rintro e w1 ⟨rfl, m1⟩
  have M := Lib.hid (M0.out.trans m1)
  clear m1
  go_wp2
  go_ret2
  exact ⟨rfl, M.out⟩

set_option maxRecDepth 100000 in
set_option maxHeartbeats 3200000 in
theorem camNew_ok (a : Option Addr) (c : Nat) (l : List (List Int)) (m : Int) (D : Nat → Prop) (w : World) (hx : Mixes D w a l) (h : camE l m = 0) :
    Calls Try.prog 8 #[.agg #[.slice a l.length c], .int .i64 m] w fun e w' => ∃ p, e = .returned (.tuple #[.pointer (some ⟨p, 0, none⟩), .int .i64 0]) ∧ Mod NoBlock w w' ∧ EyeAt w' w.heap.size w'.heap.size p l (zeros l) := by
  obtain ⟨l1, l16, hlm, hrow, hlen⟩ := cam_ok h
  subst hlm
  have M0 := Lib.hid ((Mod.refl NoBlock w).alloc (.cells #[.slice a l.length c] 24))
  have HX := Lib.hid (hx.frame M0.out)
  have hx00 := Lib.hid hx
  have HC := Lib.hid (cell_new w #[.slice a l.length c] 24 0 _ rfl)
  have H := Lib.hid h
  have HR := Lib.hid hrow
  have n1 : (1 : Int) ≤ l.length := by omega
  have n16 : (l.length : Int) ≤ 16 := by omega
  clear hx h hrow hlen
  go_enter Try.func8, Try.ntmps8
  go_wp2_with fail
  generalize w.alloc (.cells #[.slice a l.length c] 24) = w0 at M0 HX HC ⊢
  refine (camCheck_any _ _ _ _ _ _ HX.out).mono ?_
  rintro e w1 ⟨rfl, m1⟩
  rw [H.out]
  have M := Lib.hid (M0.out.trans m1)
  have hx0 := hx00.out
  replace HX := Lib.hid (HX.out.frame m1)
  have hB := m1.cell HC.out id
  have hBl := World.block_lt_of_cell? _ _ hB
  have hBl : w.heap.size < w1.heap.size := hBl
  clear m1 M0
  obtain ⟨_, b, off, ha, hcl⟩ := HX.out.open
  obtain rfl := ha (by intro h; subst h; simp at l1)
  have Hcl := Lib.hid hcl
  clear ha hcl
  obtain ⟨a0, c0, hh0, hi0⟩ := Hcl.out 0 l1
  rw [Nat.add_zero] at hh0
  have hm0 := hi0.1
  unfold maxLen at hm0
  clear hi0
  go_wp2
  have hns : NewS w (w1.alloc (.cells #[.slice none 0 0, .int .i64 (rx l 0).length] 72)) w1.heap.size none 0 0 (fun _ => 0) (rx l 0).length l :=
    ⟨M.out.alloc _, M.out.size, rowIs_new w1 _ _, Own.nil _ _ _, fun j hj => absurd hj (by omega), fun j j' hj => absurd hj (by omega)⟩
  have Hns := Lib.hid hns
  have hB : (w1.alloc (.cells #[.slice none 0 0, .int .i64 (rx l 0).length] 72)).cell? ⟨w.heap.size, 0, none⟩ = some (.slice (some ⟨b, off, none⟩) l.length c) := ((Mod.refl NoBlock w1).alloc _).cell hB id
  have HM := Lib.hid (M.out.alloc (.cells #[.slice none 0 0, .int .i64 (rx l 0).length] 72))
  clear hns hh0 hm0 hB M
  generalize w1.alloc (.cells #[.slice none 0 0, .int .i64 (rx l 0).length] 72) = w2 at Hns HM ⊢
  generalize w1.heap.size = p at Hns ⊢
  have HX0 := Lib.hid hx0
  go_loopw [9, 10, 11, 28] (fun u v x i wr => ∃ (k : Nat) (a : Option Addr) (c' : Nat) (g : Nat → Nat), k ≤ l.length ∧ i = .int .i64 k ∧ NewS w wr p a c' k g (rx l 0).length l) (fun _ _ _ i _ => l.length - (intOf i).toNat)
  case atStart => exact ⟨0, _, _, _, by omega, rfl, Hns.out⟩
  case round =>
    clear Hns HM
    obtain ⟨k, ar, cr, g, hk, rfl, hns⟩ := hrel
    have H := Lib.hid hns
    clear hns
    obtain ⟨wo, rfl⟩ : ∃ wo : World, wo = wr := ⟨_, rfl⟩
    by_cases hlt : k < l.length
    · obtain ⟨_, b', off', ha', hcl'⟩ := (HX0.out.frame H.out.mod).open
      have ha' := ha' (by intro h; subst h; simp at l1)
      simp only [Option.some.injEq, Addr.mk.injEq, and_true] at ha'
      obtain ⟨rfl, rfl⟩ := ha'
      obtain ⟨a', c', h1, hi⟩ := hcl' k hlt
      have Hi := Lib.hid hi
      clear hcl' hi
      have hm := Hi.out.1
      unfold maxLen at hm
      go_wp2_with fail
      refine (shareNew_any a' c' (rx l k) D _ Hi.out (HR.out k hlt)).mono ?_
      rintro e w2 ⟨rfl, m2, hc2⟩
      have M2 := Lib.hid m2
      have Hc2 := Lib.hid hc2
      have hp0 : w2.cell? ⟨p, 0, none⟩ = some (.slice ar k cr) := m2.cell (H.out.box.cell (by omega)) id
      have Lk := Lib.hid (show k = (ptrV k g).length from (ptrV_length k g).symm)
      have Ho := Lib.hid (H.out.row.mod m2 (fun _ _ => id))
      have hps := H.out.box.lt
      have hsz := m2.size
      clear m2 hc2
      go_wp2_with (at_builtin; refine wpList_append1 (vs := ptrV k g) rfl (.tmp 44) (.tmp 46) _ rfl elemPtrC k 1 (k + 1) 1 [.pointer (some ⟨wo.heap.size, 0, none⟩)] rfl rfl Lk.out (by simp) (by omega) (Ho.out.alloc _) (Src.one _ _ _) (by simp [Value.oneCell']) (by simp only [maxLen]; omega) (by omega) (by simp; omega) ?_
                   intro a4 c4 w4 hown4 hgrow4 hat4
                   have H4 := Lib.hid (H.out.step M2.out Hc2.out hown4 hgrow4 hat4)
                   have hb4 := (hgrow4.block p (by simp; omega) (Ho.out.away (Nat.lt_succ_self p))).trans (Below.heap_alloc w2 _ _ (by omega))
                   have hr4 := (H.out.box.of_block (M2.out.block p hps id)).of_block hb4
                   have st1 : w4.cell? ⟨p, 0, none⟩ = some (.slice ar k cr) := hr4.cell (by omega)
                   have st2 : w4.frozen? ⟨p, 0, none⟩ = false := hr4.frozen 0
                   clear hown4 hgrow4 hat4 hb4 hr4)
      exact ⟨⟨k + 1, a4, c4, _, by omega, by go_num, H4.out⟩, by simp [intOf]; omega⟩
    · have hkn : k = l.length := by omega
      subst hkn
      go_wp2
      go_ret2
      exact ⟨p, rfl, H.out.mod, H.out.eye l1⟩

end Go.Proofs.Ytnpdkpbecmpdbaa
