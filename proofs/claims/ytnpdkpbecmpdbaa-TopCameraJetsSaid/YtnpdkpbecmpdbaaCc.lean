/-
  camera.Check.
-/
import Derived.Test.YtnpdkpbecmpdbaaCb
set_option linter.unusedVariables false
set_option linter.unusedSimpArgs false
namespace Go.Proofs.Ytnpdkpbecmpdbaa
open Go.RowKit

/-- The first error of rows of rates. -/
def rowsE : List (List Int) → Int
  | [] => 0
  | x :: r => if rowE x = 0 then rowsE r else rowE x
def camE (l : List (List Int)) (m : Int) : Int :=
  if m < 1 ∨ 16 < m then 1 else if (l.length : Int) ≠ m then 18 else if rowsE l ≠ 0 then rowsE l else if oddB (rx l 0).length l then 3 else 0
theorem camE_m {l : List (List Int)} {m : Int} (h : m < 1 ∨ 16 < m) : camE l m = 1 := if_pos h
theorem camE_n {l : List (List Int)} {m : Int} (h : ¬ (m < 1 ∨ 16 < m)) (h2 : (l.length : Int) ≠ m) : camE l m = 18 := by unfold camE; rw [if_neg h, if_pos h2]
theorem camE_r {l : List (List Int)} {m : Int} (h : ¬ (m < 1 ∨ 16 < m)) (h2 : (l.length : Int) = m) (h3 : rowsE l ≠ 0) : camE l m = rowsE l := by unfold camE; rw [if_neg h, if_neg (by simpa using h2), if_pos h3]
theorem camE_o {l : List (List Int)} {m : Int} (h : ¬ (m < 1 ∨ 16 < m)) (h2 : (l.length : Int) = m) (h3 : rowsE l = 0) : camE l m = if oddB (rx l 0).length l then 3 else 0 := by unfold camE; rw [if_neg h, if_neg (by simpa using h2), if_neg (by simpa using h3)]

set_option maxRecDepth 100000 in
set_option maxHeartbeats 1600000 in
theorem camCheck_any (a : Option Addr) (c : Nat) (l : List (List Int)) (m : Int) (D : Nat → Prop) (w : World) (hx : Mixes D w a l) :
    Calls Try.prog 25 #[.agg #[.slice a l.length c], .int .i64 m] w fun e w' => e = .returned (.int .i64 (camE l m)) ∧ Mod NoBlock w w' := by
  have hl := hx.open.1
  by_cases q : m < 1 ∨ (¬ m < 1 ∧ 16 < m)
  · rw [camE_m (by omega)]
    clear hx
    rcases q with q | ⟨q, q2⟩
    all_goals
      go_enter Try.func25, Try.ntmps25
      go_wp2
      go_ret
      exact ⟨rfl, (Mod.refl _ _).alloc _⟩
  have q1 : ¬ m < 1 := by omega
  have q2 : ¬ 16 < m := by omega
  clear q
  by_cases h2 : ¬ (l.length : Int) = m
  · rw [camE_n (by omega) h2]
    clear hx
    go_enter Try.func25, Try.ntmps25
    go_wp2
    go_ret
    exact ⟨rfl, (Mod.refl _ _).alloc _⟩
  have h2 : (l.length : Int) = m := by omega
  have h0 : 0 < l.length := by omega
  have Er := Lib.hid (fun h3 => camE_r (l := l) (m := m) (by omega) h2 h3)
  have Eo := Lib.hid (fun h3 => camE_o (l := l) (m := m) (by omega) h2 h3)
  subst h2
  have m0 := (Mod.refl NoBlock w).alloc (.cells #[.slice a l.length c] 24)
  have HX := Lib.hid (hx.frame m0)
  have M := Lib.hid m0
  have hB := cell_new w #[.slice a l.length c] 24 0 _ rfl
  clear hx m0
  go_enter Try.func25, Try.ntmps25
  go_wp2
  generalize w.alloc (.cells #[.slice a l.length c] 24) = w0 at M HX hB ⊢
  generalize w.heap.size = B at hB ⊢
  obtain ⟨_, b, off, ha, hcl⟩ := HX.out.open
  obtain rfl := ha (by intro h; subst h; simp at h0)
  have Hcl := Lib.hid hcl
  clear ha hcl
  go_loop [6, 7, 22] (fun x e i => ∃ k : Nat, k ≤ l.length ∧ i = .int .i64 k ∧ rowsE (l.drop k) = rowsE l) (fun _ _ i => l.length - (intOf i).toNat)
  case atStart => exact ⟨0, by omega, rfl, by simp⟩
  case round =>
    obtain ⟨k, hk, rfl, hr⟩ := hrel
    have Hr := Lib.hid hr
    clear hr
    by_cases hlt : k < l.length
    · obtain ⟨a', c', h1, hi⟩ := Hcl.out k hlt
      have Hi := Lib.hid hi
      have hm := hi.1
      unfold maxLen at hm
      clear hi
      have e := Lib.hid (show rowsE (l.drop k) = if rowE (rx l k) = 0 then rowsE (l.drop (k + 1)) else rowE (rx l k) by rw [drop_rx hlt]; rfl)
      by_cases hq : rowE (rx l k) = 0
      · have Hq := Lib.hid hq
        clear hq
        go_wp2_with (go_at_call 43; refine (row_any _ _ _ _ _ Hi.out).mono ?_; rintro e w' ⟨rfl, rfl⟩; rw [Hq.out])
        exact ⟨⟨k + 1, by omega, by go_num, by rw [← Hr.out, e.out, if_pos Hq.out]⟩, by simp [intOf]; omega⟩
      · have Hq := Lib.hid (show rowsE l = rowE (rx l k) by rw [← Hr.out, e.out, if_neg hq])
        have hne : (rowE (rx l k) != 0) = true := by simpa using hq
        have Hn := Lib.hid hq
        clear hq
        go_wp2_with (go_at_call 43; refine (row_any _ _ _ _ _ Hi.out).mono ?_; rintro e w' ⟨rfl, rfl⟩)
        go_ret
        rw [Er.out (by rw [Hq.out]; exact Hn.out), Hq.out]
        exact ⟨rfl, M.out⟩
    · have Hz := Lib.hid (Eo.out (by rw [← Hr.out, List.drop_eq_nil_of_le (by omega)]; rfl))
      cases ho : oddB (rx l 0).length l
      all_goals
        have Ho := Lib.hid ho
        clear ho
        go_wp2_with (go_at_call 44; refine (containsOdd_any l B b off c _ _ h0 HX.out hB).mono ?_; rintro e w' ⟨rfl, rfl⟩; rw [Ho.out])
        go_ret
        rw [Hz.out, Ho.out]
        exact ⟨rfl, M.out⟩

end Go.Proofs.Ytnpdkpbecmpdbaa
