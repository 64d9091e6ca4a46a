/-
  The laws NumGcds and NumRoundTrip walked.
-/
import Derived.Test.YtfihlofegginmaaNr
set_option linter.unusedVariables false
set_option linter.unusedSimpArgs false
namespace Go.Proofs.Ytfihlofegginmaa
open Go.RowKit

theorem tmod_zero_of_dvd {a g : Int} (h : g ∣ a) : a.tmod g = 0 := Int.tmod_eq_zero_of_dvd h
theorem gcd_dvd_l (a b : Int) : ((Nat.gcd a.natAbs b.natAbs : Nat) : Int) ∣ a := Int.ofNat_dvd_left.2 (Nat.gcd_dvd_left _ _)
theorem gcd_dvd_r (a b : Int) : ((Nat.gcd a.natAbs b.natAbs : Nat) : Int) ∣ b := Int.ofNat_dvd_left.2 (Nat.gcd_dvd_right _ _)
theorem dvd_gcd' {a b d : Int} (h1 : a.tmod d = 0) (h2 : b.tmod d = 0) : d ∣ ((Nat.gcd a.natAbs b.natAbs : Nat) : Int) := by
  have k1 := Int.dvd_of_tmod_eq_zero h1
  have k2 := Int.dvd_of_tmod_eq_zero h2
  exact Int.ofNat_dvd_right.2 (Nat.dvd_gcd (Int.natAbs_dvd_natAbs.2 k1) (Int.natAbs_dvd_natAbs.2 k2))

set_option maxRecDepth 100000 in
set_option maxHeartbeats 800000 in
theorem numGcds_fin (a : Int) (_ : I64 a) (b : Int) (_ : I64 b) (d : Int) (_ : I64 d) (w : World) : Calls Try.prog 6 #[.int .i64 a, .int .i64 b, .int .i64 d] w fun e w' => e = .returned (.bool true) ∧ Mod NoBlock w w' := by
  have M := Lib.hid (Mod.refl NoBlock w)
  cases h : (inB a && inB b)
  · have E := Lib.hid (gcdN_bad h)
    clear h
    go_enter Try.func6, Try.ntmps6
    go_wp2_with fail
    refine (numGcd_any a b _).mono ?_; rw [E.out]; rintro e w1 ⟨rfl, m⟩; have M := Lib.hid (M.out.trans m); clear m
    go_wp2_with fail
    refine (refGcd_any a b _).mono ?_; rw [E.out]; rintro e w1 ⟨rfl, m⟩; have M := Lib.hid (M.out.trans m); clear m
    go_wp2_with fail
    refine (awake_any _).mono ?_; rintro e w5 ⟨rfl, m⟩; have M := Lib.hid (M.out.trans m); clear m
    go_wp2
    go_ret
    exact ⟨rfl, M.out⟩
  · have E := Lib.hid (gcdN_ok h)
    obtain ⟨a1, a2, b1, b2⟩ := in_both h
    have d1 := gcd_dvd_l a b
    have d2 := gcd_dvd_r a b
    have d3 := fun h1 h2 => dvd_gcd' (a := a) (b := b) (d := d) h1 h2
    have hz : Nat.gcd a.natAbs b.natAbs = 0 → a = 0 ∧ b = 0 := fun h => by
      obtain ⟨h1, h2⟩ := Nat.gcd_eq_zero_iff.1 h
      omega
    have hG : Nat.gcd a.natAbs b.natAbs ≤ 1125899906842624 ∨ Nat.gcd a.natAbs b.natAbs = 0 := by
      by_cases h0 : a.natAbs = 0
      · rw [h0, Nat.gcd_zero_left]; omega
      · have := Nat.gcd_le_left b.natAbs (Nat.pos_of_ne_zero h0); omega
    generalize Nat.gcd a.natAbs b.natAbs = G at *
    by_cases hG0 : G = 0
    · obtain ⟨rfl, rfl⟩ := hz hG0
      subst hG0
      clear h d1 d2 d3 hz hG a1 a2 b1 b2
      go_enter Try.func6, Try.ntmps6
      go_wp2_with fail
      refine (numGcd_any 0 0 _).mono ?_; rw [E.out]; rintro e w1 ⟨rfl, m⟩; have M := Lib.hid (M.out.trans m); clear m
      go_wp2_with fail
      refine (refGcd_any 0 0 _).mono ?_; rw [E.out]; rintro e w1 ⟨rfl, m⟩; have M := Lib.hid (M.out.trans m); clear m
      go_wp2_with fail
      refine (awake_any _).mono ?_; rintro e w5 ⟨rfl, m⟩; have M := Lib.hid (M.out.trans m); clear m
      go_wp2
      go_ret
      exact ⟨rfl, M.out⟩
    · have t1 := tmod_zero_of_dvd d1
      have t2 := tmod_zero_of_dvd d2
      have p1 : (0 : Int) < G := by omega
      have p2 : (G : Int) ≤ 1125899906842624 := by omega
      have p3 : ((G : Int) == 0) = false := by rw [beq_eq_false_iff_ne]; omega
      clear h d1 d2 hz hG hG0
      by_cases hd : d = 0
      · subst hd
        clear d3
        go_enter Try.func6, Try.ntmps6
        go_wp2_with fail
        refine (numGcd_any a b _).mono ?_; rw [E.out]; rintro e w1 ⟨rfl, m⟩; have M := Lib.hid (M.out.trans m); clear m
        go_wp2_with fail
        refine (refGcd_any a b _).mono ?_; rw [E.out]; rintro e w1 ⟨rfl, m⟩; have M := Lib.hid (M.out.trans m); clear m
        go_wp2_with fail
        refine (awake_any _).mono ?_; rintro e w5 ⟨rfl, m⟩; have M := Lib.hid (M.out.trans m); clear m
        go_wp2
        go_ret
        exact ⟨rfl, M.out⟩
      · have hd0 : (d == 0) = false := by rw [beq_eq_false_iff_ne]; exact hd
        have htest : (((a.tmod d) != 0) = true) ∨ (a.tmod d = 0 ∧ (((b.tmod d) != 0) = true)) ∨ (a.tmod d = 0 ∧ b.tmod d = 0 ∧ (G : Int).tmod d = 0) := by
          by_cases h1 : a.tmod d = 0
          · by_cases h2 : b.tmod d = 0
            · exact .inr (.inr ⟨h1, h2, Int.tmod_eq_zero_of_dvd (d3 h1 h2)⟩)
            · exact .inr (.inl ⟨h1, by rw [bne_iff_ne]; exact h2⟩)
          · exact .inl (by rw [bne_iff_ne]; exact h1)
        clear d3
        rcases htest with h1 | ⟨h1, h2⟩ | ⟨h1, h2, h3⟩
        all_goals
          go_enter Try.func6, Try.ntmps6
          go_wp2_with fail
          refine (numGcd_any a b _).mono ?_; rw [E.out]; rintro e w1 ⟨rfl, m⟩; have M := Lib.hid (M.out.trans m); clear m
          go_wp2_with fail
          refine (refGcd_any a b _).mono ?_; rw [E.out]; rintro e w1 ⟨rfl, m⟩; have M := Lib.hid (M.out.trans m); clear m
          go_wp2_with fail
          refine (awake_any _).mono ?_; rintro e w5 ⟨rfl, m⟩; have M := Lib.hid (M.out.trans m); clear m
          go_wp2
          go_ret
          exact ⟨rfl, M.out⟩

theorem fmtL_len {n : Int} {p : Nat} (hn : n.natAbs < 10 ^ 16) (hp : p ≤ 6) : (fmtL n p).length ≤ 18 := by
  have hl : (digitsN n.natAbs (p + 1)).length = lenD n.natAbs (p + 1) := digs_length _ _
  obtain ⟨l1, l2⟩ := lenD_bounds (n := n.natAbs) (least := p + 1) hn (by omega)
  have hd : (dotL (digitsN n.natAbs (p + 1)) p).length ≤ 17 := by
    unfold dotL
    split
    · omega
    · simp only [List.length_append, List.length_cons, List.length_take, List.length_drop]; omega
  unfold fmtL
  split
  · simp only [List.length_cons]; omega
  · omega

theorem trip_spec {n places : Int} (h : fmtOk n places = true) : ParseSpec (strOfNums (fmtL n places.toNat)) places (n, 0) := by
  obtain ⟨h1, h2, h3⟩ := fmt_true h
  unfold ParseSpec
  rw [if_neg (by omega)]
  exact .inl ⟨⟨h1, rfl⟩, rfl⟩

/-- What Parse gives, and what Format makes of it. -/
theorem trip_cases {s : ByteArray} {places : Int} {r : Int × Int} (h : ParseSpec s places r) : (r = (0, 1) ∨ r = (0, 3)) ∨ (r.2 = 0 ∧ fmtN r.1 places = (bytesI s, 0)) := by
  unfold ParseSpec at h
  split at h
  · exact .inl (.inl h)
  · next hp =>
    rcases h with ⟨h1, h2⟩ | ⟨h1, _⟩
    · refine .inr ⟨h2, ?_⟩
      have hok : fmtOk r.1 places = true := by
        unfold fmtOk
        rw [h1.1]; simp; omega
      rw [fmtN_ok hok, h1.bytes]
    · exact .inl (.inr h1)

set_option maxRecDepth 100000 in
set_option maxHeartbeats 1600000 in
theorem numRoundTrip_fin (n : Int) (_ : I64 n) (places : Int) (_ : I64 places) (s : ByteArray) (hs : s.size ≤ maxLen) (w : World) : Calls Try.prog 9 #[.int .i64 n, .int .i64 places, .string s] w fun e w' => e = .returned (.bool true) ∧ Mod NoBlock w w' := by
  have M := Lib.hid (Mod.refl NoBlock w)
  have Hs := Lib.hid hs
  clear hs
  have hse : (s.toList == s.toList) = true := by simp
  cases h : fmtOk n places
  · have E := Lib.hid (fmtN_bad h)
    rcases fmt_cases h with h1 | ⟨h1, h2 | ⟨h2, h3⟩⟩
    all_goals
      have H1 := Lib.hid h1
      clear h h1
      go_enter Try.func9, Try.ntmps9
      go_wp2_with fail
      refine (numFormat_any n places _).mono ?_; rw [E.out]; rintro e w1 ⟨rfl, m⟩; have M := Lib.hid (M.out.trans m); clear m
      go_wp2_with fail
      refine (refIn_any n _).mono ?_; rintro e w9 ⟨rfl, rfl⟩; rw [H1.out]
      go_wp2_with fail
      refine (numParse_any s places Hs.out _).mono ?_; rintro e w1 ⟨⟨x, y⟩, hr, rfl, m⟩; have M := Lib.hid (M.out.trans m); have Hr := Lib.hid hr; clear m hr
      rcases trip_cases Hr.out with (h4 | h4) | ⟨h4, h5⟩
      · cases h4
        go_wp2_with fail
        refine (awake_any _).mono ?_; rintro e w5 ⟨rfl, m⟩; have M := Lib.hid (M.out.trans m); clear m
        go_wp2
        go_ret
        exact ⟨rfl, M.out⟩
      · cases h4
        go_wp2_with fail
        refine (awake_any _).mono ?_; rintro e w5 ⟨rfl, m⟩; have M := Lib.hid (M.out.trans m); clear m
        go_wp2
        go_ret
        exact ⟨rfl, M.out⟩
      · change y = 0 at h4
        subst h4
        have H5 := Lib.hid h5
        clear h5
        go_wp2_with fail
        refine (numFormat_any x places _).mono ?_; rw [H5.out]; rintro e w1 ⟨rfl, m⟩; have M := Lib.hid (M.out.trans m); clear m
        rw [str_bytesI]
        go_wp2_with fail
        refine (awake_any _).mono ?_; rintro e w5 ⟨rfl, m⟩; have M := Lib.hid (M.out.trans m); clear m
        go_wp2
        go_ret
        exact ⟨rfl, M.out⟩
  · have E := Lib.hid (fmtN_ok h)
    obtain ⟨h1, h2, h3⟩ := fmt_true h
    have H1 := Lib.hid h1
    have HT := Lib.hid (trip_spec h)
    have HZ := Lib.hid (show (strOfNums (fmtL n places.toNat)).size ≤ maxLen by
      rw [strOfNums_size]
      have := fmtL_len (n := n) (p := places.toNat) (by have := inB_true.1 h1; omega) (by omega)
      unfold maxLen; omega)
    clear h h1
    go_enter Try.func9, Try.ntmps9
    go_wp2_with fail
    refine (numFormat_any n places _).mono ?_; rw [E.out]; rintro e w1 ⟨rfl, m⟩; have M := Lib.hid (M.out.trans m); clear m
    go_wp2_with fail
    refine (refIn_any n _).mono ?_; rintro e w9 ⟨rfl, rfl⟩; rw [H1.out]
    go_wp2_with fail
    refine (numParse_eq HZ.out HT.out).mono ?_; rintro e w1 ⟨rfl, m⟩; have M := Lib.hid (M.out.trans m); clear m
    go_wp2_with fail
    refine (numParse_any s places Hs.out _).mono ?_; rintro e w1 ⟨⟨x, y⟩, hr, rfl, m⟩; have M := Lib.hid (M.out.trans m); have Hr := Lib.hid hr; clear m hr
    rcases trip_cases Hr.out with (h4 | h4) | ⟨h4, h5⟩
    · cases h4
      go_wp2_with fail
      refine (awake_any _).mono ?_; rintro e w5 ⟨rfl, m⟩; have M := Lib.hid (M.out.trans m); clear m
      go_wp2
      go_ret
      exact ⟨rfl, M.out⟩
    · cases h4
      go_wp2_with fail
      refine (awake_any _).mono ?_; rintro e w5 ⟨rfl, m⟩; have M := Lib.hid (M.out.trans m); clear m
      go_wp2
      go_ret
      exact ⟨rfl, M.out⟩
    · change y = 0 at h4
      subst h4
      have H5 := Lib.hid h5
      clear h5
      go_wp2_with fail
      refine (numFormat_any x places _).mono ?_; rw [H5.out]; rintro e w1 ⟨rfl, m⟩; have M := Lib.hid (M.out.trans m); clear m
      rw [str_bytesI]
      go_wp2_with fail
      refine (awake_any _).mono ?_; rintro e w5 ⟨rfl, m⟩; have M := Lib.hid (M.out.trans m); clear m
      go_wp2
      go_ret
      exact ⟨rfl, M.out⟩

end Go.Proofs.Ytfihlofegginmaa
