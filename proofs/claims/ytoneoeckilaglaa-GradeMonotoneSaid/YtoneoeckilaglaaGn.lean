/-
  The law GradeMonotone walked.
-/
import Derived.Test.YtoneoeckilaglaaGm
import Derived.Test.YtoneoeckilaglaaOwn
import Derived.Test.YtoneoeckilaglaaVc
set_option linter.unusedVariables false
set_option linter.unusedSimpArgs false
namespace Go.Proofs.Ytoneoeckilaglaa
open Go.RowKit

theorem sum_set : ∀ (l : List Int) (k : Nat) (m : Int), k < l.length → (l.set k (ix l k + m)).sum = l.sum + m := by
  intro l
  induction l with
  | nil => intro k m h; simp at h
  | cons x r ih =>
    intro k m h
    cases k with
    | zero => simp [ix]; omega
    | succ k =>
      have := ih k m (by simpa using h)
      have e : ix (x :: r) (k + 1) = ix r k := by simp [ix]
      rw [e, List.set_cons_succ, List.sum_cons, List.sum_cons, this]
      omega

theorem ix_set {l : List Int} {k : Nat} (v : Int) (h : k < l.length) : ix (l.set k v) k = v := by simp [ix, h]

theorem more_fault {ys : List Int} {k : Nat} {m : Int} (hf : faultL ys = 0) (hk : k < ys.length) (h0 : 0 ≤ m) (h1 : ix ys k ≤ 1073741824 - m) : faultL (ys.set k (ix ys k + m)) = 0 := by
  obtain ⟨hl, hg⟩ := ok_of_fault hf
  have hk2 := hg k hk
  refine faultL_ok (by rw [List.length_set]; omega) ?_
  rw [List.any_eq_false]
  intro x hx
  rcases List.mem_or_eq_of_mem_set hx with h | h
  · obtain ⟨j, hj, rfl⟩ := List.mem_iff_getElem.1 h
    have := hg j hj
    have e : ix ys j = ys[j] := by simp [ix, hj]
    rw [e] at this
    simp [badMass]
    omega
  · subst h
    simp [badMass]
    omega

theorem purL_facts {xs : List Int} {i : Int} (h : (purL xs i).2 = 0) : faultL xs = 0 ∧ 0 ≤ i ∧ i < (xs.length : Int) ∧ ¬ xs.sum = 0 := by
  by_cases h1 : faultL xs = 0
  · by_cases h2 : i < 0 ∨ (xs.length : Int) ≤ i
    · rw [purL_range h1 h2] at h; exact absurd h (by decide)
    · by_cases h3 : xs.sum = 0
      · rw [purL_empty h1 h2 h3] at h; exact absurd h (by decide)
      · exact ⟨h1, by omega, by omega, h3⟩
  · rw [purL_bad h1] at h; exact absurd h h1

theorem ix_le_sum : ∀ (l : List Int), (∀ k, k < l.length → 0 ≤ ix l k) → 0 ≤ l.sum ∧ ∀ k, k < l.length → ix l k ≤ l.sum := by
  intro l
  induction l with
  | nil => intro _; exact ⟨by simp, fun k h => by simp at h⟩
  | cons x r ih =>
    intro h
    have hx : 0 ≤ x := h 0 (by simp)
    obtain ⟨i1, i2⟩ := ih fun k hk => by have := h (k + 1) (by simpa using hk); simpa [ix] using this
    refine ⟨by simp; omega, fun k hk => ?_⟩
    cases k with
    | zero => simp [ix]; omega
    | succ k =>
      have := i2 k (by simpa using hk)
      have e : ix (x :: r) (k + 1) = ix r k := by simp [ix]
      rw [e, List.sum_cons]
      omega

/-- More of the material: a class that is not worse. -/
theorem ofG_more {l : List (Int × Int)} {ys : List Int} {k : Nat} {m : Int} (h : (ofG l ys k).2 = 0) (hk : k < ys.length) (h0 : 0 ≤ m) (h1 : ix ys k ≤ 1073741824 - m) :
    ∃ x y, ofG l ys k = (x, 0) ∧ ofG l (ys.set k (ix ys k + m)) k = (y, 0) ∧ 0 ≤ y ∧ y ≤ x ∧ x < (l.length : Int) := by
  obtain ⟨c1, c2, c3, c4⟩ := ofG_facts h
  obtain ⟨p1, p2, p3, p4⟩ := purL_facts c2
  have hf := more_fault p1 hk h0 h1
  obtain ⟨hl, hg⟩ := ok_of_fault p1
  obtain ⟨s1, s2⟩ := ix_le_sum ys fun j hj => (hg j hj).1
  have hle := s2 k hk
  have hx0 := (hg k hk).1
  have e1 : purL ys k = (ix ys k * 1000 / ys.sum, 0) := by
    have := purL_ok p1 (show ¬ ((k : Int) < 0 ∨ (ys.length : Int) ≤ k) by omega) p4
    rwa [Int.toNat_natCast] at this
  have e2 : purL (ys.set k (ix ys k + m)) k = ((ix ys k + m) * 1000 / (ys.sum + m), 0) := by
    have := purL_ok hf (i := (k : Int)) (by rw [List.length_set]; omega) (by rw [sum_set ys k m hk]; omega)
    rw [Int.toNat_natCast, ix_set _ hk, sum_set ys k m hk] at this
    exact this
  have hm := pur_mono hx0 hle (by omega) h0
  rw [e1] at c4
  obtain ⟨m1, m2⟩ := classAt_mono (l := l) hm (Int.le_refl 0) c4
  have hb := classAt_bound l (ix ys k * 1000 / ys.sum) 0 (Int.le_refl 0)
  unfold ofG
  rw [if_pos c1, e1, if_pos rfl, if_pos c1, e2, if_pos rfl, if_neg c4, if_neg (show ¬ classAt l ((ix ys k + m) * 1000 / (ys.sum + m)) 0 = -1 by omega)]
  refine ⟨_, _, rfl, rfl, m1, m2, ?_⟩
  show classAt l (ix ys k * 1000 / ys.sum) 0 < _
  rcases hb with hb | hb
  · exact absurd hb c4
  · omega

theorem ofG_bad {l : List (Int × Int)} {xs : List Int} {i : Int} (h : ¬ (ofG l xs i).2 = 0) : (ofG l xs i).1 = 0 := by
  unfold ofG at h ⊢
  split at h
  · next h1 =>
    rw [if_pos h1]
    split at h
    · next h2 =>
      rw [if_pos h2]
      split at h
      · next h3 => rw [if_pos h3]
      · exact absurd rfl h
    · next h2 => rw [if_neg h2]
  · next h1 => rw [if_neg h1]

set_option maxRecDepth 100000 in
set_option maxHeartbeats 3200000 in
theorem gradeMonotone_fin (a : Option Addr) (c : Nat) (l : List (Int × Int)) {w : World} (hx : Grs Any w a l) (hcap : l.length ≤ c) (a2 : Option Addr) (c2 : Nat) (ys : List Int) (hy : Ints Any w a2 ys) (_ : ys.length ≤ c2) (_ : ∀ x ∈ ys, I64 x) (i : Int) (_ : I64 i) (mo : Int) (_ : I64 mo) (_ : World) :
    Calls Try.prog 7 #[.slice a l.length c, .slice a2 ys.length c2, .int .i64 i, .int .i64 mo] w fun e w' => e = .returned (.bool true) ∧ Mod NoBlock w w' := by
  have M := Lib.hid (Mod.refl NoBlock w)
  have HX := Lib.hid hx
  have HY := Lib.hid hy
  have hl := hx.open.1
  have hl2 := hy.1
  unfold maxLen at hl2
  have AW := awakeG_any
  clear hx hy
  by_cases h3 : 100 < (l.length : Int) ∨ (¬ 100 < (l.length : Int) ∧ 16 < (ys.length : Int)) ∨ (¬ 100 < (l.length : Int) ∧ ¬ 16 < (ys.length : Int) ∧ i < 0) ∨ (¬ 100 < (l.length : Int) ∧ ¬ 16 < (ys.length : Int) ∧ ¬ i < 0 ∧ (ys.length : Int) ≤ i) ∨
      (¬ 100 < (l.length : Int) ∧ ¬ 16 < (ys.length : Int) ∧ ¬ i < 0 ∧ ¬ (ys.length : Int) ≤ i ∧ mo < 0) ∨ (¬ 100 < (l.length : Int) ∧ ¬ 16 < (ys.length : Int) ∧ ¬ i < 0 ∧ ¬ (ys.length : Int) ≤ i ∧ ¬ mo < 0 ∧ 1073741824 < mo)
  · rcases h3 with q1 | ⟨q1, q2⟩ | ⟨q1, q2, q3⟩ | ⟨q1, q2, q3, q4⟩ | ⟨q1, q2, q3, q4, q5⟩ | ⟨q1, q2, q3, q4, q5, q6⟩
    all_goals
      go_enter Try.func7, Try.ntmps7
      go_wp2_with fail
      refine (AW _).mono ?_; rintro e w9 ⟨rfl, m⟩; have M := Lib.hid (M.out.trans m); clear m
      go_wp2
      go_ret
      exact ⟨rfl, M.out⟩
  have q1 : ¬ 100 < (l.length : Int) := by omega
  have q2 : ¬ 16 < (ys.length : Int) := by omega
  have q3 : ¬ i < 0 := by omega
  have q4 : ¬ (ys.length : Int) ≤ i := by omega
  have q5 : ¬ mo < 0 := by omega
  have q6 : ¬ 1073741824 < mo := by omega
  clear h3
  by_cases h2 : ¬ (ofG l ys i).2 = 0
  · have h0 := ofG_bad h2
    obtain ⟨E, hE, hne⟩ : ∃ E, ofG l ys i = (0, E) ∧ (E != 0) = true := ⟨(ofG l ys i).2, by rw [← h0], by simpa using h2⟩
    have O1 := Lib.hid hE
    clear hE h2 h0
    go_enter Try.func7, Try.ntmps7
    go_wp2_with fail
    refine (gradeOf_is O1.out rfl rfl _ _ _ _ _ _ _ HX.out HY.out).mono ?_; rintro e w2 ⟨rfl, m⟩
    have M := Lib.hid (M.out.trans m); clear m HX HY
    go_wp2_with fail
    refine (AW _).mono ?_; rintro e w9 ⟨rfl, m⟩; have M := Lib.hid (M.out.trans m); clear m
    go_wp2
    go_ret
    exact ⟨rfl, M.out⟩
  have h2 : (ofG l ys i).2 = 0 := Decidable.not_not.1 h2
  obtain ⟨k, rfl⟩ : ∃ k : Nat, i = k := ⟨i.toNat, by omega⟩
  have hk : k < ys.length := by omega
  obtain ⟨p1, _, _, _⟩ := purL_facts (ofG_facts h2).2.1
  obtain ⟨_, hg⟩ := ok_of_fault p1
  obtain ⟨v1, v2⟩ := hg k hk
  obtain ⟨lx, b2, off2, ha2, hcl⟩ := HY.out.open
  have hcell := hcl k hk
  have hb2 := HY.out.2
  obtain rfl := ha2 (by intro h; simp [h] at hk)
  have Hcell := Lib.hid hcell
  clear ha2 hcl hcell hg p1 hb2
  by_cases hbig : 1073741824 - mo < ix ys k
  · obtain ⟨x, hxo, x0, x1⟩ : ∃ x, ofG l ys k = (x, 0) ∧ 0 ≤ x ∧ x < (l.length : Int) := by
      obtain ⟨c1, c2, c3, c4⟩ := ofG_facts h2
      refine ⟨(ofG l ys k).1, by rw [← h2], ?_⟩
      rw [c3]
      rcases classAt_bound l (purL ys k).1 0 (Int.le_refl 0) with hb | hb
      · exact absurd hb c4
      · omega
    have O1 := Lib.hid hxo
    clear hxo h2
    generalize hv : ix ys k = v at *
    have HV := Lib.hid hv
    clear hv
    have Hk := Lib.hid (show (ys.map (Value.int .i64))[k]? = some (.int .i64 v) by rw [List.getElem?_map, List.getElem?_eq_getElem hk, ← ix_eq hk, HV.out]; rfl)
    have Hne := Lib.hid (show ys.map (Value.int .i64) ≠ [] by intro h; have := congrArg List.length h; rw [List.length_map, List.length_nil] at this; omega)
    go_enter Try.func7, Try.ntmps7
    go_wp2_with fail
    refine (gradeOf_is O1.out rfl rfl _ _ _ _ _ _ _ HX.out HY.out).mono ?_; rintro e w2 ⟨rfl, m⟩
    have M := Lib.hid (M.out.trans m); have HX := Lib.hid (HX.out.frame m); have HY := Lib.hid (HY.out.frame m); have hcell := m.cell Hcell.out id; clear m Hcell
    go_wp2_with (at_builtin; refine wpList_append1 (vs := []) rfl (.tmp 77) (.tmp 78) _ rfl elemMix 0 ys.length ys.length c2 (ys.map (Value.int .i64)) rfl rfl rfl (by simp) (by omega) (Own.nil w2 w2.heap.size _) (Src.ints HY.out) (by simp [Value.oneCell']) (by simp only [maxLen]; omega) (by omega) (Nat.le_refl _) ?_; intro a3 c3 w3 hown hgr hbl; clear hbl; rw [List.nil_append] at hown; obtain ⟨g3, rfl, hBg, hg2, hgc, hgf⟩ := hown.head Hne.out; have hc3 := hgc k _ Hk.out; have hf3 := hgf k; have m := (Mod.refl NoBlock w2).grown hgr (by intro k h; cases h); have M3 := Lib.hid m; have Hown := Lib.hid hown; have hcell := m.cell hcell id; clear hown m hgc hgf hgr)
    refine (AW _).mono ?_; rintro e w9 ⟨rfl, m⟩; have M3 := Lib.hid (M3.out.trans m); clear m
    go_wp2
    go_ret
    exact ⟨rfl, (M.out).trans M3.out⟩
  · obtain ⟨x, y, o1, o2, y0, y1, x1⟩ := ofG_more h2 hk (by omega : 0 ≤ mo) (by omega)
    have O1 := Lib.hid o1
    have O2 := Lib.hid o2
    have HB := Lib.hid (show betterB l y x = true by
      unfold betterB
      rw [decide_eq_true (ofG_facts h2).1, decide_eq_true y0, decide_eq_true y1, decide_eq_true x1]; rfl)
    clear o1 o2 h2
    generalize hv : ix ys k = v at *
    have HV := Lib.hid hv
    clear hv
    have Hk := Lib.hid (show (ys.map (Value.int .i64))[k]? = some (.int .i64 v) by rw [List.getElem?_map, List.getElem?_eq_getElem hk, ← ix_eq hk, HV.out]; rfl)
    have Hne := Lib.hid (show ys.map (Value.int .i64) ≠ [] by intro h; have := congrArg List.length h; rw [List.length_map, List.length_nil] at this; omega)
    go_enter Try.func7, Try.ntmps7
    go_wp2_with fail
    refine (gradeOf_is O1.out rfl rfl _ _ _ _ _ _ _ HX.out HY.out).mono ?_; rintro e w2 ⟨rfl, m⟩
    have M := Lib.hid (M.out.trans m); have HX := Lib.hid (HX.out.frame m); have HY := Lib.hid (HY.out.frame m); have hcell := m.cell Hcell.out id; clear m Hcell
    go_wp2_with (at_builtin; refine wpList_append1 (vs := []) rfl (.tmp 77) (.tmp 78) _ rfl elemMix 0 ys.length ys.length c2 (ys.map (Value.int .i64)) rfl rfl rfl (by simp) (by omega) (Own.nil w2 w2.heap.size _) (Src.ints HY.out) (by simp [Value.oneCell']) (by simp only [maxLen]; omega) (by omega) (Nat.le_refl _) ?_; intro a3 c3 w3 hown hgr hbl; clear hbl; rw [List.nil_append] at hown; obtain ⟨g3, rfl, hBg, hg2, hgc, hgf⟩ := hown.head Hne.out; have hc3 := hgc k _ Hk.out; have hf3 := hgf k; have m := (Mod.refl NoBlock w2).grown hgr (by intro k h; cases h); have M3 := Lib.hid m; have Hown := Lib.hid hown; have hcell := m.cell hcell id; clear hown m hgc hgf hgr)
    have hB3 : w2.heap.size ≤ g3 := hBg
    have hS : Own (w3.setCell ⟨g3, k, none⟩ (.int .i64 (v + mo))) w2.heap.size 3 (some ⟨g3, 0, none⟩) c3 ((ys.set k (v + mo)).map (Value.int .i64)) := by
      unfold Own
      rw [List.map_set, List.length_set]
      exact (World.ownsRow.stored Hown.out k _).1
    have HZ := Lib.hid (Own.ints (D := Any) hS (fun _ _ _ => trivial) (by rw [List.length_set]; exact HY.out.1))
    have M4 := Lib.hid (M3.out.setCell (p := ⟨g3, k, none⟩) (.inr hBg) (.int .i64 (v + mo)))
    have HX := Lib.hid (HX.out.frame M4.out)
    have M := Lib.hid (M.out.trans M4.out)
    refine (gradeOf_is O2.out rfl (List.length_set ..).symm _ _ _ _ _ _ _ HX.out HZ.out).mono ?_; rintro e w5 ⟨rfl, m⟩
    have M := Lib.hid (M.out.trans m); have HX := Lib.hid (HX.out.frame m); clear m HY HZ M3 M4
    go_wp2_with fail
    refine (gradeBetter_any _ _ l y x _ _ HX.out).mono ?_; rw [HB.out]; rintro e w6 ⟨rfl, m⟩
    have M := Lib.hid (M.out.trans m); clear m HX
    go_wp2_with fail
    refine (AW _).mono ?_; rintro e w9 ⟨rfl, m⟩; have M := Lib.hid (M.out.trans m); clear m
    go_wp2
    go_ret
    exact ⟨rfl, M.out⟩

end Go.Proofs.Ytoneoeckilaglaa
