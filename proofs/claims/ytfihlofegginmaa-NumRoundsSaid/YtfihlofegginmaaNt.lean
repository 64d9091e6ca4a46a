/-
  The law NumRounds walked.
-/
import Derived.Test.YtfihlofegginmaaNr
import Derived.Deep.DeepCutAuto
set_option linter.unusedVariables false
set_option linter.unusedSimpArgs false
namespace Go.Proofs.Ytfihlofegginmaa
open Go.RowKit

def smallB (a : Int) : Bool := decide (-1073741824 ≤ a) && decide (a ≤ 1073741824)
theorem smallB_true {a : Int} : smallB a = true ↔ -1073741824 ≤ a ∧ a ≤ 1073741824 := by simp [smallB]
theorem small_any (a : Int) (w : World) : Calls Try.prog 17 #[.int .i64 a] w fun e w' => e = .returned (.bool (smallB a)) ∧ w = w' := by
  have E : smallB a = (decide (-1073741824 ≤ a) && decide (a ≤ 1073741824)) := rfl
  by_cases h : -1073741824 ≤ a
  · by_cases h2 : a ≤ 1073741824
    · rw [decide_eq_true h, decide_eq_true h2] at E
      have hi := Lib.hid E
      clear E
      go_enter Try.func17, Try.ntmps17
      go_wp2
      go_ret
      exact ⟨ret_bool hi.out.symm, rfl⟩
    · rw [decide_eq_true h, decide_eq_false h2] at E
      have hi := Lib.hid E
      clear E
      go_enter Try.func17, Try.ntmps17
      go_wp2
      go_ret
      exact ⟨ret_bool hi.out.symm, rfl⟩
  · rw [decide_eq_false h] at E
    have hi := Lib.hid E
    clear E
    go_enter Try.func17, Try.ntmps17
    go_wp2
    go_ret
    exact ⟨ret_bool hi.out.symm, rfl⟩

theorem rounds_bad {a b c mode : Int} (h : ¬ (smallB a = true ∧ smallB b = true ∧ inB c = true ∧ c ≠ 0 ∧ 0 ≤ mode ∧ mode ≤ 3)) :
    smallB a = false ∨ (smallB a = true ∧ (smallB b = false ∨ (smallB b = true ∧ (inB c = false ∨ (inB c = true ∧ (c = 0 ∨ c ≠ 0 ∧ (mode < 0 ∨ ¬ mode < 0 ∧ 3 < mode))))))) := by
  cases ha : smallB a
  · exact .inl rfl
  · refine .inr ⟨rfl, ?_⟩
    cases hb : smallB b
    · exact .inl rfl
    · refine .inr ⟨rfl, ?_⟩
      cases hc : inB c
      · exact .inl rfl
      · refine .inr ⟨rfl, ?_⟩
        by_cases h0 : c = 0
        · exact .inl h0
        · refine .inr ⟨h0, ?_⟩
          by_cases hm : mode < 0
          · exact .inl hm
          · refine .inr ⟨hm, ?_⟩
            by_cases h3 : 3 < mode
            · exact h3
            · exact absurd ⟨ha, hb, hc, h0, by omega, by omega⟩ h

set_option maxRecDepth 100000 in
set_option maxHeartbeats 1600000 in
theorem numRounds_bad (a b c mode : Int) (w : World) (h : ¬ (smallB a = true ∧ smallB b = true ∧ inB c = true ∧ c ≠ 0 ∧ 0 ≤ mode ∧ mode ≤ 3)) : Calls Try.prog 5 #[.agg #[.int .i64 a, .int .i64 b, .int .i64 c, .int .i64 mode]] w fun e w' => e = .returned (.bool true) ∧ Mod NoBlock w w' := by
  have M := Lib.hid ((Mod.refl NoBlock w).alloc (.cells #[.int .i64 a, .int .i64 b, .int .i64 c, .int .i64 mode] 29))
  rcases rounds_bad h with h1 | ⟨h1, h2 | ⟨h2, h3 | ⟨h3, rfl | ⟨h4, h5 | ⟨h5, h6⟩⟩⟩⟩⟩
  all_goals
    have H1 := Lib.hid h1
    try have H2 := Lib.hid h2
    try have H3 := Lib.hid h3
    try have hc0 : (c == 0) = false := by rw [beq_eq_false_iff_ne]; exact h4
    clear h h1
    try clear h2
    try clear h3
    try clear h4
    go_enter Try.func5, Try.ntmps5
    go_wp2_with (first
      | (go_at_call 17; refine (small_any _ _).mono ?_; rintro e w9 ⟨rfl, rfl⟩; first | rw [H1.out] | rw [H2.out])
      | (go_at_call 18; refine (refIn_any _ _).mono ?_; rintro e w9 ⟨rfl, rfl⟩; rw [H3.out])
      | (go_at_call 12; refine (awake_any _).mono ?_; rintro e w5 ⟨rfl, m⟩; have M := Lib.hid (M.out.trans m); clear m))
    go_ret
    exact ⟨rfl, M.out⟩

theorem neg_mul_sign {a b c : Int} {X Y : Nat} (hX : a.natAbs = X) (hY : b.natAbs = Y) : (if c < 0 then -(a * b) else a * b) = signN (negB a b c) (X * Y) := by
  subst hX; subst hY
  unfold negB
  by_cases ha : a < 0
  · have ea : a = -((a.natAbs : Nat) : Int) := by omega
    by_cases hb : b < 0
    · have eb : b = -((b.natAbs : Nat) : Int) := by omega
      have e : a * b = ((a.natAbs * b.natAbs : Nat) : Int) := by rw [Int.natCast_mul]; conv => lhs; rw [ea, eb]; rw [Int.neg_mul_neg]
      by_cases hc : c < 0 <;> simp only [ha, hb, hc, e, signN, decide_true, decide_false, if_true, if_false] <;> rfl
    · have eb : b = ((b.natAbs : Nat) : Int) := by omega
      have e : a * b = -((a.natAbs * b.natAbs : Nat) : Int) := by rw [Int.natCast_mul]; conv => lhs; rw [ea, eb]; rw [Int.neg_mul]
      by_cases hc : c < 0 <;> simp only [ha, hb, hc, e, signN, decide_true, decide_false, if_true, if_false, Int.neg_neg] <;> rfl
  · have ea : a = ((a.natAbs : Nat) : Int) := by omega
    by_cases hb : b < 0
    · have eb : b = -((b.natAbs : Nat) : Int) := by omega
      have e : a * b = -((a.natAbs * b.natAbs : Nat) : Int) := by rw [Int.natCast_mul]; conv => lhs; rw [ea, eb]; rw [Int.mul_neg]
      by_cases hc : c < 0 <;> simp only [ha, hb, hc, e, signN, decide_true, decide_false, if_true, if_false, Int.neg_neg] <;> rfl
    · have eb : b = ((b.natAbs : Nat) : Int) := by omega
      have e : a * b = ((a.natAbs * b.natAbs : Nat) : Int) := by rw [Int.natCast_mul]; conv => lhs; rw [ea, eb]
      by_cases hc : c < 0 <;> simp only [ha, hb, hc, e, signN, decide_true, decide_false, if_true, if_false] <;> rfl

/-- What the modes promise of the difference d and the quotient. -/
def RoundOk (mode : Int) (d : Int) (Z QU PP V : Nat) (q : Int) : Prop :=
  (mode = 0 ∧ 0 ≤ d ∧ d < Z) ∨ (mode = 1 ∧ d ≤ 0 ∧ -(Z : Int) < d) ∨ (mode = 2 ∧ (2 * d.natAbs < Z ∨ (¬ 2 * d.natAbs < Z ∧ 2 * d.natAbs = Z ∧ PP < V))) ∨
  (mode = 3 ∧ (2 * d.natAbs < Z ∨ (¬ 2 * d.natAbs < Z ∧ 2 * d.natAbs = Z ∧ q.tmod 2 = 0)))

theorem tmod2 {n : Nat} (ng : Bool) (h : n % 2 = 0) : (signN ng n).tmod 2 = 0 := by
  refine Int.tmod_eq_zero_of_dvd ?_
  cases ng
  · show (2 : Int) ∣ (n : Int); omega
  · show (2 : Int) ∣ -(n : Int); omega

theorem round_ok {mode : Int} {ng : Bool} {Q R Z T : Nat} (hm0 : 0 ≤ mode) (hm3 : mode ≤ 3) (hR : R < Z) (u : Bool) (hu : upB mode ng Q R Z = u) :
    RoundOk mode (signN ng (T + R) - signN ng (T + if u then Z else 0)) Z (Q + if u then 1 else 0) (T + R) (T + if u then Z else 0) (signN ng (Q + if u then 1 else 0)) := by
  unfold RoundOk
  rcases (by omega : mode = 0 ∨ mode = 1 ∨ mode = 2 ∨ mode = 3) with rfl | rfl | rfl | rfl
  · refine .inl ⟨rfl, ?_⟩
    rw [upB0] at hu
    cases ng <;> cases u <;> simp at hu <;> simp only [signN] <;> simp <;> omega
  · refine .inr (.inl ⟨rfl, ?_⟩)
    rw [upB1] at hu
    cases ng <;> cases u <;> simp at hu <;> simp only [signN] <;> simp <;> omega
  · refine .inr (.inr (.inl ⟨rfl, ?_⟩))
    rw [upB2] at hu
    cases ng <;> cases u <;> simp at hu <;> simp only [signN] <;> simp <;> omega
  · refine .inr (.inr (.inr ⟨rfl, ?_⟩))
    rw [upB3] at hu
    by_cases h2 : 2 * R = Z
    · have he : (Q + if u then 1 else 0) % 2 = 0 := by
        cases u <;> simp at hu ⊢ <;> omega
      refine .inr ⟨?_, ?_, tmod2 ng he⟩
      · cases ng <;> cases u <;> simp only [signN] <;> simp <;> omega
      · cases ng <;> cases u <;> simp only [signN] <;> simp <;> omega
    · refine .inl ?_
      cases ng <;> cases u <;> simp at hu <;> simp only [signN] <;> simp <;> omega

theorem signN_nat (ng : Bool) (n : Nat) : (signN ng n).natAbs = n := by cases ng <;> simp [signN]
theorem signN_mul (ng : Bool) (n Z : Nat) : signN ng n * (Z : Int) = signN ng (n * Z) := by cases ng <;> simp [signN, Int.neg_mul]

/-- All that the walk needs of the numbers. -/
theorem rounds_facts {a b c mode : Int} (ha : smallB a = true) (hb : smallB b = true) (hc : inB c = true) (hc0 : c ≠ 0) (hm0 : 0 ≤ mode) (hm3 : mode ≤ 3) :
    ∃ (P q d v : Int) (Z Q QU PP V : Nat), ((c = -(Z : Int) ∧ a * b = -P) ∨ (c = (Z : Int) ∧ a * b = P)) ∧ 0 < Z ∧ Z ≤ 1125899906842624 ∧ absN P = PP ∧ PP ≤ 1152921504606846976 ∧ PP / Z = Q ∧
      absN q = QU ∧ QU ≤ Q + 1 ∧ scaleN a b c mode = chkN q ∧ q * (Z : Int) = v ∧ QU * Z = V ∧ V ≤ 1154047404513689600 ∧ v.natAbs = V ∧ P - v = d ∧ d.natAbs ≤ 1125899906842624 ∧ RoundOk mode d Z QU PP V q := by
  obtain ⟨a1, a2⟩ := smallB_true.1 ha
  obtain ⟨b1, b2⟩ := smallB_true.1 hb
  have hgood : goodN a b c mode = true := by
    unfold goodN
    have i1 : inB a = true := inB_true.2 (by omega)
    have i2 : inB b = true := inB_true.2 (by omega)
    rw [i1, i2, hc]
    simp [hc0]
    omega
  have hcr := inB_true.1 hc
  have hs := scaleN_ok hgood
  have hneg := neg_mul_sign (c := c) (rfl : a.natAbs = _) (rfl : b.natAbs = _)
  obtain ⟨ng, hng⟩ : ∃ ng, negB a b c = ng := ⟨_, rfl⟩
  obtain ⟨Z, hZ⟩ : ∃ Z, c.natAbs = Z := ⟨_, rfl⟩
  have hZ0 : 0 < Z := by omega
  have hXY : a.natAbs * b.natAbs ≤ 1073741824 * 1073741824 := Nat.mul_le_mul (by omega) (by omega)
  have hq : quoN a b c mode = a.natAbs * b.natAbs / Z + (if upB mode ng (a.natAbs * b.natAbs / Z) (a.natAbs * b.natAbs % Z) Z then 1 else 0) := by simp only [quoN, hng, hZ]
  rw [hng] at hneg hs
  generalize a.natAbs * b.natAbs = XY at *
  have hdm := Nat.div_add_mod XY Z
  rw [Nat.mul_comm] at hdm
  have hR : XY % Z < Z := Nat.mod_lt _ hZ0
  obtain ⟨Q, hQ⟩ : ∃ Q, XY / Z = Q := ⟨_, rfl⟩
  obtain ⟨R, hRd⟩ : ∃ Q, XY % Z = Q := ⟨_, rfl⟩
  obtain ⟨u, hu⟩ : ∃ u, upB mode ng Q R Z = u := ⟨_, rfl⟩
  rw [hQ, hRd, hu] at hq
  rw [hQ, hRd] at hdm
  rw [hRd] at hR
  have hro := round_ok (T := Q * Z) hm0 hm3 hR u hu
  have hV : (Q + if u then 1 else 0) * Z = Q * Z + if u then Z else 0 := by
    cases u
    · simp
    · simp [Nat.add_mul]
  have hXY2 : XY ≤ 1152921504606846976 := hXY
  refine ⟨signN ng XY, signN ng (Q + if u then 1 else 0), _, _, Z, Q, Q + (if u then 1 else 0), XY, Q * Z + (if u then Z else 0), ?_, hZ0, by omega, ?_, hXY2, hQ, ?_, ?_, by rw [hs, hq], signN_mul ng _ Z, hV, ?_, ?_, rfl, ?_, ?_⟩
  · by_cases hc : c < 0
    · refine .inl ⟨by omega, ?_⟩
      rw [if_pos hc] at hneg
      omega
    · refine .inr ⟨by omega, ?_⟩
      rw [if_neg hc] at hneg
      exact hneg
  · simp only [absN, signN_nat]
  · simp only [absN, signN_nat]
  · cases u <;> simp
  · cases u
    · simp; omega
    · simp; omega
  · rw [hV, signN_nat]
  · rw [hV, ← hdm]
    cases ng <;> cases u <;> simp only [signN] <;> simp <;> omega
  · rw [hV, ← hdm]; exact hro

set_option maxRecDepth 100000 in
set_option maxHeartbeats 3200000 in
theorem numRounds_ok (a b c mode : Int) (w : World) (ha : smallB a = true) (hb : smallB b = true) (hc : inB c = true) (hc0 : c ≠ 0) (hm0 : 0 ≤ mode) (hm3 : mode ≤ 3) : Calls Try.prog 5 #[.agg #[.int .i64 a, .int .i64 b, .int .i64 c, .int .i64 mode]] w fun e w' => e = .returned (.bool true) ∧ Mod NoBlock w w' := by
  obtain ⟨P, q, d, v, Z, Q, QU, PP, V, hcc, z1, z2, eP, p2, hQ, eq, qu, hs, hqv, hV, v2, hv, hd, d2, hro⟩ := rounds_facts ha hb hc hc0 hm0 hm3
  have H1 := Lib.hid ha
  have H2 := Lib.hid hb
  have H3 := Lib.hid hc
  have c0 : (c == 0) = false := by rw [beq_eq_false_iff_ne]; exact hc0
  have g1 : decide (mode < 0) = false := decide_eq_false (by omega)
  have g2 : decide (3 < mode) = false := decide_eq_false (by omega)
  have HS := Lib.hid hs
  have HR := Lib.hid hro
  have hPb : -1152921504606846976 ≤ P ∧ P ≤ 1152921504606846976 := by simp only [absN] at eP; omega
  have HP := Lib.hid hPb
  have eD : (PP : Int) / Z = (Q : Int) := by rw [← hQ]; simp
  have eD2 : (PP : Int).tdiv Z = (Q : Int) := by rw [Int.tdiv_eq_ediv_of_nonneg (by omega)]; exact eD
  have zi : (0 : Int) < Z := by omega
  have zi2 : (Z : Int) ≤ 1125899906842624 := by omega
  have hQb : (Q : Int) ≤ 1152921504606846976 := by
    have : Q ≤ PP := by rw [← hQ]; exact Nat.div_le_self _ _
    omega
  have M := Lib.hid ((Mod.refl NoBlock w).alloc (.cells #[.int .i64 a, .int .i64 b, .int .i64 c, .int .i64 mode] 29))
  have hrow := rowIs_new w #[.int .i64 a, .int .i64 b, .int .i64 c, .int .i64 mode] 29
  have HRow := Lib.hid hrow
  have HPb := Lib.hid hPb
  obtain ⟨pb1, pb2⟩ := hPb
  clear ha hb hc hc0 hrow hs hro hm0 hm3 hQ
  have Hq := Lib.hid (show (inB q = true ∧ QU ≤ 1125899906842624) ∨ (inB q = false ∧ (1125899906842624 : Int) ≤ Q) by
    simp only [absN] at eq
    by_cases h : QU ≤ 1125899906842624
    · exact .inl ⟨inB_true.2 (by omega), h⟩
    · exact .inr ⟨inB_false.2 (by omega), by omega⟩)
  have Hd2 := Lib.hid (show -1125899906842624 ≤ d ∧ d ≤ 1125899906842624 by omega)
  have HD := Lib.hid (show -9223372036854775808 < d ∧ d ≤ 9223372036854775807 by omega)
  have HE := Lib.hid (show eq = eq from rfl)
  have HV := Lib.hid hV
  have Hqv := Lib.hid (show q * (Z : Int) = v ∧ P - v = d ∧ -1154047404513689600 ≤ v ∧ v ≤ 1154047404513689600 ∧ V ≤ 1154047404513689600 by omega)
  have Hqu := Lib.hid qu
  have Hpp := Lib.hid p2
  clear hV hqv hd hv v2 d2 qu p2 z1 z2 HE
  rcases hcc with ⟨rfl, hp⟩ | ⟨rfl, hp⟩
  all_goals
    go_enter Try.func5, Try.ntmps5
    go_wp2_with (first
      | (go_at_call 17; refine (small_any _ _).mono ?_; rintro e w9 ⟨rfl, rfl⟩; first | rw [H1.out] | rw [H2.out])
      | (go_at_call 18; refine (refIn_any _ _).mono ?_; rintro e w9 ⟨rfl, rfl⟩; rw [H3.out]))
    go_quiet (fail)
    go_wp2_with fail
    refine (numScale_any a b _ mode _).mono ?_; rw [HS.out]; rintro e w1 ⟨rfl, m⟩
    have K := Lib.hid ((M.out.drewN _).trans m)
    clear M
    have hrow1 := HRow.out.of_block (m.block w.heap.size HRow.out.lt id)
    have g3 : w1.cell? ⟨w.heap.size, 3, Option.none⟩ = some (.int .i64 mode) := hrow1.cell (by simp)
    clear m hrow1 hp
    rcases Hq.out with ⟨hin, hqu⟩ | ⟨hin, hQ⟩
    · rw [chkN_ok hin]
      have Hin := Lib.hid hin
      obtain ⟨r1, r2, r3, r4, r5⟩ := Hqv.out
      have hQU := Hqu.out
      have t1 : decide (Q + 1 < QU) = false := decide_eq_false (by omega)
      have t2 : decide ((Q : Int) + 1 < QU) = false := decide_eq_false (by omega)
      obtain ⟨d1, d2⟩ : -1125899906842624 ≤ d ∧ d ≤ 1125899906842624 := Hd2.out
      have qb : (QU : Int) ≤ 1125899906842624 := by omega
      obtain ⟨q1, q2⟩ : -1125899906842624 ≤ q ∧ q ≤ 1125899906842624 := inB_true.1 Hin.out
      clear hin r5 hqu hQU
      rcases HR.out with ⟨rfl, k1, k2⟩ | ⟨rfl, k1, k2⟩ | ⟨rfl, k1⟩ | ⟨rfl, k1⟩
      · go_wp2_with (first
          | (go_at_call 18; refine (refIn_any _ _).mono ?_; rintro e w9 ⟨rfl, rfl⟩; rw [Hin.out])
          | (go_at_call 19; refine (lawAbs_any _ (by omega) _).mono ?_; rintro e w8 ⟨rfl, rfl⟩)
          | (go_at_call 12; refine (awake_any _).mono ?_; rintro e w5 ⟨rfl, m⟩; have K := Lib.hid (K.out.trans m); clear m))
        go_ret
        exact ⟨rfl, K.out⟩
      · go_wp2_with (first
          | (go_at_call 18; refine (refIn_any _ _).mono ?_; rintro e w9 ⟨rfl, rfl⟩; rw [Hin.out])
          | (go_at_call 19; refine (lawAbs_any _ (by omega) _).mono ?_; rintro e w8 ⟨rfl, rfl⟩)
          | (go_at_call 12; refine (awake_any _).mono ?_; rintro e w5 ⟨rfl, m⟩; have K := Lib.hid (K.out.trans m); clear m))
        go_ret
        exact ⟨rfl, K.out⟩
      · obtain ⟨D, hD⟩ : ∃ D, d.natAbs = D := ⟨_, rfl⟩
        rw [hD] at k1
        have ed : absN d = (D : Int) := by simp only [absN, hD]
        have Db : (D : Int) ≤ 1125899906842624 := by omega
        have hDz : (2 * (D : Int) < Z) ∨ ((decide (2 * (D : Int) < Z) = false) ∧ ((2 * (D : Int) == Z) = true) ∧ (QU : Int) * Z = (V : Int) ∧ PP < V) := by
          rcases k1 with h | ⟨h1, h2, h3⟩
          · exact .inl (by omega)
          · exact .inr ⟨decide_eq_false (by omega), by rw [beq_iff_eq]; omega, by rw [← HV.out]; simp, h3⟩
        have Vb : (V : Int) ≤ 1154047404513689600 := by have := Hqv.out.2.2.2.2; omega
        have HPn := Lib.hid (show (0 : Int) ≤ PP by omega)
        clear k1 hD
        rcases hDz with k1 | ⟨k1, k2, k3, k4⟩
        all_goals
          go_wp2_with (first
            | (go_at_call 18; refine (refIn_any _ _).mono ?_; rintro e w9 ⟨rfl, rfl⟩; rw [Hin.out])
            | (go_at_call 19; refine (lawAbs_any _ (by omega) _).mono ?_; rintro e w8 ⟨rfl, rfl⟩)
            | (go_at_call 12; refine (awake_any _).mono ?_; rintro e w5 ⟨rfl, m⟩; have K := Lib.hid (K.out.trans m); clear m))
          go_ret
          exact ⟨rfl, K.out⟩
      · obtain ⟨D, hD⟩ : ∃ D, d.natAbs = D := ⟨_, rfl⟩
        rw [hD] at k1
        have ed : absN d = (D : Int) := by simp only [absN, hD]
        have Db : (D : Int) ≤ 1125899906842624 := by omega
        have hDz : (2 * (D : Int) < Z) ∨ ((decide (2 * (D : Int) < Z) = false) ∧ ((2 * (D : Int) == Z) = true) ∧ q.tmod 2 = 0) := by
          rcases k1 with h | ⟨h1, h2, h3⟩
          · exact .inl (by omega)
          · exact .inr ⟨decide_eq_false (by omega), by rw [beq_iff_eq]; omega, h3⟩
        clear k1 hD
        rcases hDz with k1 | ⟨k1, k2, k3⟩
        all_goals
          go_wp2_with (first
            | (go_at_call 18; refine (refIn_any _ _).mono ?_; rintro e w9 ⟨rfl, rfl⟩; rw [Hin.out])
            | (go_at_call 19; refine (lawAbs_any _ (by omega) _).mono ?_; rintro e w8 ⟨rfl, rfl⟩)
            | (go_at_call 12; refine (awake_any _).mono ?_; rintro e w5 ⟨rfl, m⟩; have K := Lib.hid (K.out.trans m); clear m))
          go_ret
          exact ⟨rfl, K.out⟩
    · rw [chkN_bad hin]
      clear hin
      go_wp2_with (first
        | (go_at_call 19; refine (lawAbs_any _ (by have := HPb.out; omega) _).mono ?_; rintro e w8 ⟨rfl, rfl⟩)
        | (go_at_call 12; refine (awake_any _).mono ?_; rintro e w5 ⟨rfl, m⟩; have K := Lib.hid (K.out.trans m); clear m))
      go_ret
      exact ⟨rfl, K.out⟩

theorem numRounds_fin (a : Int) (_ : I64 a) (b : Int) (_ : I64 b) (c : Int) (_ : I64 c) (mode : Int) (_ : I64 mode) (w : World) : Calls Try.prog 5 #[.agg #[.int .i64 a, .int .i64 b, .int .i64 c, .int .i64 mode]] w fun e w' => e = .returned (.bool true) ∧ Mod NoBlock w w' := by
  by_cases h : smallB a = true ∧ smallB b = true ∧ inB c = true ∧ c ≠ 0 ∧ 0 ≤ mode ∧ mode ≤ 3
  · exact numRounds_ok a b c mode w h.1 h.2.1 h.2.2.1 h.2.2.2.1 h.2.2.2.2.1 h.2.2.2.2.2
  · exact numRounds_bad a b c mode w h

end Go.Proofs.Ytfihlofegginmaa
