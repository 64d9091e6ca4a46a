/-
  match: which problems are valid.
-/
import Derived.Test.YtnpdkpbecmpdbaaHz
set_option linter.unusedVariables false
set_option linter.unusedSimpArgs false
namespace Go.Proofs.Ytnpdkpbecmpdbaa
open Go.RowKit

/-- Some number is below lo or dear. -/
def badL (lo : Int) (l : List Int) : Bool := l.any fun c => decide (c < lo) || decide (1000000000 < c)
theorem badL_at {lo : Int} {l : List Int} {q : Nat} (hq : q < l.length) (h : ix l q < lo ∨ 1000000000 < ix l q) : badL lo l = true := by
  refine List.any_eq_true.2 ⟨ix l q, ?_, ?_⟩
  · rw [ix_eq hq]; exact List.getElem_mem hq
  · rcases h with h | h <;> simp [h]
theorem badL_none {lo : Int} {l : List Int} (h : ∀ i, i < l.length → ¬ (ix l i < lo ∨ 1000000000 < ix l i)) : badL lo l = false := by
  refine List.any_eq_false.2 fun c hc => ?_
  obtain ⟨i, hi, rfl⟩ := List.mem_iff_getElem.1 hc
  have := h i hi
  rw [ix_eq hi] at this
  simp; omega
theorem badL_ok {lo : Int} {l : List Int} (h : badL lo l = false) {i : Nat} (hi : i < l.length) : lo ≤ ix l i ∧ ix l i ≤ 1000000000 := by
  by_cases hb : ix l i < lo ∨ 1000000000 < ix l i
  · rw [badL_at hi hb] at h; cases h
  · omega

/-- The first error of a row of k numbers. -/
def rowE (k : Nat) (r : List Int) : Int := if 24 < r.length then 8 else if r.length ≠ k then 3 else if badL (-1) r then 1 else 0
def rowsE (k : Nat) : List (List Int) → Int
  | [] => 0
  | r :: t => if rowE k r = 0 then rowsE k t else rowE k r
theorem rowsE_at {k : Nat} : ∀ {C : List (List Int)} {q : Nat}, q < C.length → (∀ i, i < q → rowE k (rx C i) = 0) → rowE k (rx C q) ≠ 0 → rowsE k C = rowE k (rx C q)
  | [], q, hq, _, _ => absurd hq (Nat.not_lt_zero q)
  | r :: t, 0, _, _, he => if_neg he
  | r :: t, q + 1, hq, h, he => by
    show (if rowE k r = 0 then rowsE k t else _) = _
    rw [if_pos (show rowE k r = 0 from h 0 (by omega))]
    exact rowsE_at (by simpa using hq) (fun i hi => h (i + 1) (by omega)) he
theorem rowsE_all {k : Nat} : ∀ {C : List (List Int)}, (∀ i, i < C.length → rowE k (rx C i) = 0) → rowsE k C = 0
  | [], _ => rfl
  | r :: t, h => by
    show (if rowE k r = 0 then rowsE k t else _) = _
    rw [if_pos (show rowE k r = 0 from h 0 (by simp))]
    exact rowsE_all fun i hi => h (i + 1) (by simpa using hi)
theorem rowsE_ok {k : Nat} : ∀ {C : List (List Int)}, rowsE k C = 0 → ∀ i, i < C.length → rowE k (rx C i) = 0
  | [], _, i, hi => absurd hi (Nat.not_lt_zero i)
  | r :: t, h, i, hi => by
    have h : (if rowE k r = 0 then rowsE k t else rowE k r) = 0 := h
    by_cases hr : rowE k r = 0
    · rw [if_pos hr] at h
      cases i with
      | zero => exact hr
      | succ i => exact rowsE_ok h i (by simpa using hi)
    · rw [if_neg hr] at h; exact absurd h hr

def chkM (C : List (List Int)) (sk : List Int) : Int :=
  if 24 < C.length then 8 else if sk.length ≠ C.length then 3 else if rowsE (rx C 0).length C ≠ 0 then rowsE (rx C 0).length C else if badL 0 sk then 1 else 0

/-- What a problem without fault is. -/
structure ProbOk (C : List (List Int)) (sk : List Int) (n k : Nat) : Prop where
  rect : Rect C n k
  len : sk.length = n
  n24 : n ≤ 24
  k24 : k ≤ 24
  k0 : n = 0 → k = 0
  cost : ∀ r, r < n → ∀ j, j < k → -1 ≤ ix (rx C r) j ∧ ix (rx C r) j ≤ 1000000000
  skip : ∀ r, r < n → 0 ≤ ix sk r ∧ ix sk r ≤ 1000000000
theorem probOk {C : List (List Int)} {sk : List Int} (h : chkM C sk = 0) : ProbOk C sk C.length (rx C 0).length := by
  unfold chkM at h
  by_cases h1 : 24 < C.length
  · rw [if_pos h1] at h; cases h
  rw [if_neg h1] at h
  by_cases h2 : sk.length ≠ C.length
  · rw [if_pos h2] at h; cases h
  rw [if_neg h2] at h
  by_cases h3 : rowsE (rx C 0).length C ≠ 0
  · rw [if_pos h3] at h; exact absurd h h3
  rw [if_neg h3] at h
  have h3 : rowsE (rx C 0).length C = 0 := by omega
  have h4 : badL 0 sk = false := by
    cases hb : badL 0 sk
    · rfl
    · rw [hb] at h; cases h
  have h2 : sk.length = C.length := by omega
  have hrow : ∀ i, i < C.length → (rx C i).length ≤ 24 ∧ (rx C i).length = (rx C 0).length ∧ badL (-1) (rx C i) = false := fun i hi => by
    have h5 := rowsE_ok h3 i hi
    unfold rowE at h5
    by_cases g1 : 24 < (rx C i).length
    · rw [if_pos g1] at h5; cases h5
    rw [if_neg g1] at h5
    by_cases g2 : (rx C i).length ≠ (rx C 0).length
    · rw [if_pos g2] at h5; cases h5
    rw [if_neg g2] at h5
    refine ⟨by omega, by omega, ?_⟩
    cases hb : badL (-1) (rx C i)
    · rfl
    · rw [hb] at h5; cases h5
  refine ⟨⟨rfl, fun r hr => (hrow r hr).2.1⟩, h2, by omega, ?_, fun h0 => ?_, fun r hr j hj => ?_, fun r hr => badL_ok h4 (by omega)⟩
  · by_cases h0 : 0 < C.length
    · exact (hrow 0 h0).1
    · have : C = [] := List.eq_nil_of_length_eq_zero (by omega)
      subst this; exact Nat.zero_le _
  · have : C = [] := List.eq_nil_of_length_eq_zero h0
    subst this; rfl
  · exact badL_ok (hrow r hr).2.2 (by rw [(hrow r hr).2.1]; exact hj)

theorem chkM_full {C : List (List Int)} {sk : List Int} (h : 24 < C.length) : chkM C sk = 8 := if_pos h
theorem chkM_form {C : List (List Int)} {sk : List Int} (h : ¬ 24 < C.length) (h2 : sk.length ≠ C.length) : chkM C sk = 3 := by unfold chkM; rw [if_neg h, if_pos h2]
theorem chkM_row {C : List (List Int)} {sk : List Int} (h : ¬ 24 < C.length) (h2 : sk.length = C.length) {q : Nat} (hq : q < C.length) (hp : ∀ i, i < q → rowE (rx C 0).length (rx C i) = 0) {e : Int} (he : rowE (rx C 0).length (rx C q) = e) (he0 : e ≠ 0) : chkM C sk = e := by
  have h3 := rowsE_at hq hp (by rw [he]; exact he0)
  unfold chkM
  rw [if_neg h, if_neg (by omega), if_pos (by rw [h3, he]; exact he0), h3, he]
theorem chkM_skip {C : List (List Int)} {sk : List Int} (h : ¬ 24 < C.length) (h2 : sk.length = C.length) (hp : ∀ i, i < C.length → rowE (rx C 0).length (rx C i) = 0) : chkM C sk = if badL 0 sk then 1 else 0 := by
  unfold chkM
  rw [if_neg h, if_neg (by omega), if_neg (by rw [rowsE_all hp]; decide)]
theorem rowE_full {k : Nat} {r : List Int} (h : 24 < r.length) : rowE k r = 8 := if_pos h
theorem rowE_form {k : Nat} {r : List Int} (h : ¬ 24 < r.length) (h2 : r.length ≠ k) : rowE k r = 3 := by unfold rowE; rw [if_neg h, if_pos h2]
theorem rowE_bad {k : Nat} {r : List Int} (h : ¬ 24 < r.length) (h2 : r.length = k) (h3 : badL (-1) r = true) : rowE k r = 1 := by unfold rowE; rw [if_neg h, if_neg (by omega), if_pos h3]
theorem rowE_ok {k : Nat} {r : List Int} (h : ¬ 24 < r.length) (h2 : r.length = k) (h3 : badL (-1) r = false) : rowE k r = 0 := by unfold rowE; rw [if_neg h, if_neg (by omega), h3]; rfl

set_option maxRecDepth 100000 in
set_option maxHeartbeats 6400000 in
theorem check_any {D E : Nat → Prop} {w : World} {a b : Option Addr} {c d : Nat} {C : List (List Int)} {sk : List Int} (h : Mixes D w a C) (hs : Ints E w b sk) :
    Calls Try.prog 54 #[.slice a C.length c, .slice b sk.length d] w fun e w' => e = .returned (.int .i64 (chkM C sk)) ∧ w = w' := by
  have HC := Lib.hid h
  have HS := Lib.hid hs
  have lC : C.length ≤ maxLen := h.1
  have lS : sk.length ≤ maxLen := hs.1
  simp only [maxLen] at lC lS
  clear h hs
  by_cases h1 : 24 < C.length
  · have HE := Lib.hid (chkM_full (sk := sk) h1)
    have h1' : (24 : Int) < (C.length : Int) := by omega
    go_enter Try.func54, Try.ntmps54
    go_wp2_with fail
    go_ret
    exact ⟨by rw [HE.out] <;> rfl, rfl⟩
  have H1 := Lib.hid h1
  have h1' : (C.length : Int) ≤ 24 := by omega
  by_cases h2 : sk.length ≠ C.length
  · have HE := Lib.hid (chkM_form h1 h2)
    have h2' : ((sk.length : Int) != (C.length : Int)) = true := bne_iff_ne.2 (by omega)
    clear h1 h2
    go_enter Try.func54, Try.ntmps54
    go_wp2_with fail
    go_ret
    exact ⟨by rw [HE.out] <;> rfl, rfl⟩
  have H2 : Hid (sk.length = C.length) := Lib.hid (by omega)
  rw [H2.out]
  obtain ⟨n, hn⟩ : ∃ n, C.length = n := ⟨_, rfl⟩
  have Hn := Lib.hid hn
  rw [hn] at lC h1' ⊢
  obtain ⟨k, hk⟩ : ∃ k, (rx C 0).length = k := ⟨_, rfl⟩
  have Hk := Lib.hid hk
  have HR := Lib.hid (fun q hq hp e he he0 => chkM_row (C := C) (sk := sk) h1 H2.out (q := q) hq hp (e := e) he he0)
  have HK := Lib.hid (chkM_skip (C := C) (sk := sk) h1 H2.out)
  rw [hn, hk] at HK
  rw [hk] at HR
  clear h1 h2 lS hn hk
  go_enter Try.func54, Try.ntmps54
  go_wp2_with fail
  go_loopw [21] (fun i wr => ∃ q : Nat, q ≤ n ∧ i = .int .i64 q ∧ (∀ i, i < q → rowE k (rx C i) = 0) ∧ Hid (wr = w)) (fun i _ => n - (intOf i).toNat)
  case atStart => exact ⟨0, by omega, rfl, fun i hi => absurd hi (Nat.not_lt_zero i), Lib.hid rfl⟩
  case round =>
    obtain ⟨q, hq, rfl, hp, ⟨rfl⟩⟩ := hrel
    have HP := Lib.hid hp
    clear hp
    by_cases hlt : q < n
    · obtain ⟨b1, off1, a1, c1, rfl, hD1, hc1, hI1⟩ := HC.out.row (k := q) (by rw [Hn.out]; exact hlt)
      obtain ⟨b2, off2, a2, c2, ha2, hD2, hc2, hI2⟩ := HC.out.row (k := 0) (by rw [Hn.out]; omega)
      simp only [Option.some.injEq, Addr.mk.injEq, and_true] at ha2
      obtain ⟨rfl, rfl⟩ := ha2
      rw [Nat.add_zero, Hk.out] at hc2
      have q1 : (q : Int) < (n : Int) := by omega
      have n1 : (0 : Int) < (n : Int) := by omega
      have HI := Lib.hid hI1
      have lr : (rx C q).length ≤ maxLen := hI1.1
      simp only [maxLen] at lr
      clear hI1 hI2 hD1 hD2
      obtain ⟨r, hr⟩ : ∃ r, rx C q = r := ⟨_, rfl⟩
      rw [hr] at hc1 HI lr
      have Hr := Lib.hid hr
      clear hr
      by_cases g1 : 24 < r.length
      · have g1' : (24 : Int) < (r.length : Int) := by omega
        have HE := Lib.hid (HR.out q (by rw [Hn.out]; exact hlt) HP.out 8 (by rw [Hr.out]; exact rowE_full g1) (by decide))
        clear g1
        go_wp2_with fail
        go_ret
        exact ⟨by rw [HE.out] <;> rfl, rfl⟩
      have G1 := Lib.hid g1
      have g1' : (r.length : Int) ≤ 24 := by omega
      by_cases g2 : r.length ≠ k
      · have g2' : ((r.length : Int) != (k : Int)) = true := bne_iff_ne.2 (by omega)
        have HE := Lib.hid (HR.out q (by rw [Hn.out]; exact hlt) HP.out 3 (by rw [Hr.out]; exact rowE_form g1 g2) (by decide))
        clear g1 g2
        go_wp2_with fail
        go_ret
        exact ⟨by rw [HE.out] <;> rfl, rfl⟩
      have G2 : Hid (r.length = k) := Lib.hid (by omega)
      rw [G2.out] at hc1 g1'
      clear g1 g2 lr
      go_wp2_with fail
      go_loopw [37] (fun i wr => ∃ j : Nat, j ≤ k ∧ i = .int .i64 j ∧ (∀ i, i < j → ¬ (ix r i < -1 ∨ 1000000000 < ix r i)) ∧ Hid (wr = w)) (fun i _ => k - (intOf i).toNat)
      case atStart => exact ⟨0, by omega, rfl, fun i hi => absurd hi (Nat.not_lt_zero i), Lib.hid rfl⟩
      case round =>
        obtain ⟨j, hj, rfl, hok, ⟨rfl⟩⟩ := hrel
        have HO := Lib.hid hok
        clear hok
        by_cases hjk : j < k
        · obtain ⟨_, b3, o3, ha3, hc3⟩ := HI.out.open
          obtain rfl := ha3 (by intro e; have := G2.out; rw [e] at this; simp at this; omega)
          have hc4 := hc3 j (by rw [G2.out]; exact hjk)
          have j1 : (j : Int) < (k : Int) := by omega
          clear hc3 ha3
          obtain ⟨x, hx⟩ : ∃ x, ix r j = x := ⟨_, rfl⟩
          rw [hx] at hc4
          by_cases hb : x < -1 ∨ 1000000000 < x
          · have HE := Lib.hid (HR.out q (by rw [Hn.out]; exact hlt) HP.out 1 (by rw [Hr.out]; exact rowE_bad G1.out G2.out (badL_at (q := j) (by rw [G2.out]; exact hjk) (by rw [hx]; exact hb))) (by decide))
            clear hx
            rcases hb with hb | hb
            · go_wp2_with fail
              go_ret
              exact ⟨by rw [HE.out] <;> rfl, rfl⟩
            · have hb2 : ¬ x < -1 := by omega
              go_wp2_with fail
              go_ret
              exact ⟨by rw [HE.out] <;> rfl, rfl⟩
          · have Hb := Lib.hid hb
            have x1 : -1 ≤ x := by omega
            have x2 : x ≤ 1000000000 := by omega
            have Hx := Lib.hid hx
            clear hx hb
            go_wp2_with fail
            exact ⟨⟨j + 1, by omega, by go_num, fun i hi => by
              by_cases e : i = j
              · rw [e, Hx.out]; exact Hb.out
              · exact HO.out i (by omega), Lib.hid trivial⟩, by simp [intOf]; omega⟩
        · obtain rfl : j = k := by omega
          have Hrow : Hid (rowE j (rx C q) = 0) := Lib.hid (by rw [Hr.out]; exact rowE_ok G1.out G2.out (badL_none fun i hi => HO.out i (by rw [G2.out] at hi; exact hi)))
          go_wp2_with fail
          exact ⟨⟨q + 1, by omega, by go_num, fun i hi => by
            by_cases e : i = q
            · rw [e]; exact Hrow.out
            · exact HP.out i (by omega), Lib.hid trivial⟩, by simp [intOf]; omega⟩
    · obtain rfl : q = n := by omega
      have HE := Lib.hid (HK.out HP.out)
      clear hlt
      go_wp2_with fail
      go_loopw [51] (fun i wr => ∃ j : Nat, j ≤ q ∧ i = .int .i64 j ∧ (∀ i, i < j → ¬ (ix sk i < 0 ∨ 1000000000 < ix sk i)) ∧ Hid (wr = w)) (fun i _ => q - (intOf i).toNat)
      case atStart => exact ⟨0, by omega, rfl, fun i hi => absurd hi (Nat.not_lt_zero i), Lib.hid rfl⟩
      case round =>
        obtain ⟨j, hj, rfl, hok, ⟨rfl⟩⟩ := hrel
        have HO := Lib.hid hok
        clear hok
        by_cases hjk : j < q
        · obtain ⟨_, b3, o3, ha3, hc3⟩ := HS.out.open
          obtain rfl := ha3 (by intro e; have h9 := H2.out; rw [e, Hn.out] at h9; simp at h9; omega)
          have hc4 := hc3 j (by rw [H2.out, Hn.out]; exact hjk)
          have j1 : (j : Int) < (q : Int) := by omega
          clear hc3 ha3
          obtain ⟨x, hx⟩ : ∃ x, ix sk j = x := ⟨_, rfl⟩
          rw [hx] at hc4
          by_cases hb : x < 0 ∨ 1000000000 < x
          · have HE2 : Hid (chkM C sk = 1) := Lib.hid (by rw [HE.out, badL_at (q := j) (by rw [H2.out, Hn.out]; exact hjk) (by rw [hx]; exact hb)]; rfl)
            clear hx
            rcases hb with hb | hb
            · go_wp2_with fail
              go_ret
              exact ⟨by rw [HE2.out] <;> rfl, rfl⟩
            · have hb2 : ¬ x < 0 := by omega
              go_wp2_with fail
              go_ret
              exact ⟨by rw [HE2.out] <;> rfl, rfl⟩
          · have Hb := Lib.hid hb
            have x1 : 0 ≤ x := by omega
            have x2 : x ≤ 1000000000 := by omega
            have Hx := Lib.hid hx
            clear hx hb
            go_wp2_with fail
            exact ⟨⟨j + 1, by omega, by go_num, fun i hi => by
              by_cases e : i = j
              · rw [e, Hx.out]; exact Hb.out
              · exact HO.out i (by omega), Lib.hid trivial⟩, by simp [intOf]; omega⟩
        · obtain rfl : j = q := by omega
          have HE2 : Hid (chkM C sk = 0) := Lib.hid (by rw [HE.out, badL_none fun i hi => HO.out i (by rw [H2.out, Hn.out] at hi; exact hi)]; rfl)
          go_wp2_with fail
          go_ret
          exact ⟨by rw [HE2.out] <;> rfl, rfl⟩

end Go.Proofs.Ytnpdkpbecmpdbaa
