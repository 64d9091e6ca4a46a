/-
  The laws NumAdds, NumMuls, NumSums, NumFormats, NumParses, NumScales, NumGcds walked.
-/
import Derived.Test.YtfihlofegginmaaNq
import Derived.Test.YtfihlofegginmaaOpen
set_option linter.unusedVariables false
set_option linter.unusedSimpArgs false
namespace Go.Proofs.Ytfihlofegginmaa
open Go.RowKit

theorem refAdd_any (a b : Int) (w : World) : Calls Try.prog 27 #[.int .i64 a, .int .i64 b] w fun e w' => e = .returned (.tuple #[.int .i64 (addN a b).1, .int .i64 (addN a b).2]) ∧ w = w' := by
  cases ha : inB a
  · rw [addN_bad (by simp [ha])]
    have H := Lib.hid ha
    clear ha
    go_enter Try.func27, Try.ntmps27
    go_wp2_with (go_at_call 18; refine (refIn_any _ _).mono ?_; rintro e w9 ⟨rfl, rfl⟩; rw [H.out])
    go_ret2
    exact ⟨rfl, rfl⟩
  cases hb : inB b
  · rw [addN_bad (by simp [hb])]
    have H := Lib.hid ha
    have H2 := Lib.hid hb
    clear ha hb
    go_enter Try.func27, Try.ntmps27
    go_wp2_with (go_at_call 18; refine (refIn_any _ _).mono ?_; rintro e w9 ⟨rfl, rfl⟩; first | rw [H.out] | rw [H2.out])
    go_ret2
    exact ⟨rfl, rfl⟩
  · have h : (inB a && inB b) = true := by simp [ha, hb]
    rw [addN_ok h]
    obtain ⟨a1, a2, b1, b2⟩ := in_both h
    have e1 : IntKind.i64.wrap (a + b) = a + b := IntWalk.i64_in _ (by omega)
    have H := Lib.hid ha
    have H2 := Lib.hid hb
    clear h ha hb a1 a2 b1 b2
    go_enter Try.func27, Try.ntmps27
    go_wp2_with (first
      | (go_at_call 18; refine (refIn_any _ _).mono ?_; rintro e w9 ⟨rfl, rfl⟩; first | rw [H.out] | rw [H2.out])
      | (go_at_call 39; refine (bounded_any _ _).mono ?_; rintro e w8 ⟨rfl, rfl⟩))
    go_ret2
    exact ⟨rfl, rfl⟩

theorem refSub_any (a b : Int) (w : World) : Calls Try.prog 29 #[.int .i64 a, .int .i64 b] w fun e w' => e = .returned (.tuple #[.int .i64 (subN a b).1, .int .i64 (subN a b).2]) ∧ w = w' := by
  cases ha : inB a
  · rw [subN_bad (by simp [ha])]
    have H := Lib.hid ha
    clear ha
    go_enter Try.func29, Try.ntmps29
    go_wp2_with (go_at_call 18; refine (refIn_any _ _).mono ?_; rintro e w9 ⟨rfl, rfl⟩; rw [H.out])
    go_ret2
    exact ⟨rfl, rfl⟩
  cases hb : inB b
  · rw [subN_bad (by simp [hb])]
    have H := Lib.hid ha
    have H2 := Lib.hid hb
    clear ha hb
    go_enter Try.func29, Try.ntmps29
    go_wp2_with (go_at_call 18; refine (refIn_any _ _).mono ?_; rintro e w9 ⟨rfl, rfl⟩; first | rw [H.out] | rw [H2.out])
    go_ret2
    exact ⟨rfl, rfl⟩
  · have h : (inB a && inB b) = true := by simp [ha, hb]
    rw [subN_ok h]
    obtain ⟨a1, a2, b1, b2⟩ := in_both h
    have e1 : IntKind.i64.wrap (a - b) = a - b := IntWalk.i64_in _ (by omega)
    have H := Lib.hid ha
    have H2 := Lib.hid hb
    clear h ha hb a1 a2 b1 b2
    go_enter Try.func29, Try.ntmps29
    go_wp2_with (first
      | (go_at_call 18; refine (refIn_any _ _).mono ?_; rintro e w9 ⟨rfl, rfl⟩; first | rw [H.out] | rw [H2.out])
      | (go_at_call 39; refine (bounded_any _ _).mono ?_; rintro e w8 ⟨rfl, rfl⟩))
    go_ret2
    exact ⟨rfl, rfl⟩

theorem numAdds_fin (a : Int) (_ : I64 a) (b : Int) (_ : I64 b) (w : World) : Calls Try.prog 10 #[.int .i64 a, .int .i64 b] w fun e w' => e = .returned (.bool true) ∧ Mod NoBlock w w' := by
  have M := Lib.hid (Mod.refl NoBlock w)
  go_enter Try.func10, Try.ntmps10
  go_wp2_with fail
  refine (numAdd_any a b _).mono ?_; rintro e w1 ⟨rfl, m⟩; have M := Lib.hid (M.out.trans m); clear m
  go_wp2_with fail
  refine (refAdd_any a b _).mono ?_; rintro e w2 ⟨rfl, rfl⟩
  generalize (addN a b).1 = x
  generalize (addN a b).2 = y
  go_wp2_with fail
  refine (numSub_any a b _).mono ?_; rintro e w3 ⟨rfl, m⟩; have M := Lib.hid (M.out.trans m); clear m
  go_wp2_with fail
  refine (refSub_any a b _).mono ?_; rintro e w4 ⟨rfl, rfl⟩
  generalize (subN a b).1 = x1
  generalize (subN a b).2 = y1
  go_wp2_with fail
  refine (awake_any _).mono ?_; rintro e w5 ⟨rfl, m⟩; have M := Lib.hid (M.out.trans m); clear m
  go_wp2
  go_ret
  exact ⟨rfl, M.out⟩

theorem numMuls_fin (a : Int) (_ : I64 a) (b : Int) (_ : I64 b) (w : World) : Calls Try.prog 11 #[.int .i64 a, .int .i64 b] w fun e w' => e = .returned (.bool true) ∧ Mod NoBlock w w' := by
  have M := Lib.hid (Mod.refl NoBlock w)
  go_enter Try.func11, Try.ntmps11
  go_wp2_with fail
  refine (numMul_any a b _).mono ?_; rintro e w1 ⟨rfl, m⟩; have M := Lib.hid (M.out.trans m); clear m
  go_wp2_with fail
  refine (refMul_any a b _).mono ?_; rintro e w2 ⟨rfl, rfl⟩
  generalize (mulN a b).1 = x
  generalize (mulN a b).2 = y
  go_wp2_with fail
  refine (awake_any _).mono ?_; rintro e w5 ⟨rfl, m⟩; have M := Lib.hid (M.out.trans m); clear m
  go_wp2
  go_ret
  exact ⟨rfl, M.out⟩

theorem numSums_fin (a : Option Addr) (c : Nat) (xs : List Int) {w : World} (hx : Ints Any w a xs) (_ : xs.length ≤ c) (_ : ∀ x ∈ xs, I64 x) (_ : World) : Calls Try.prog 3 #[.slice a xs.length c] w fun e w' => e = .returned (.bool true) ∧ Mod NoBlock w w' := by
  have M := Lib.hid (Mod.refl NoBlock w)
  have HX := Lib.hid hx
  have hl := hx.open.1
  clear hx
  by_cases hn : xs.length ≤ 20000
  · have hn' : decide (20000 < xs.length) = false := decide_eq_false (by omega)
    go_enter Try.func3, Try.ntmps3
    go_wp2_with fail
    refine (numSum_any a c xs Any _ HX.out hn).mono ?_; rintro e w1 ⟨rfl, m⟩; have M := Lib.hid (M.out.trans m); have HX := Lib.hid (HX.out.frame m); clear m
    go_wp2_with fail
    refine (refSum_any a c xs Any _ HX.out hn).mono ?_; rintro e w2 ⟨rfl, rfl⟩
    generalize (sumN xs).1 = x
    generalize (sumN xs).2 = y
    go_wp2_with fail
    refine (awake_any _).mono ?_; rintro e w5 ⟨rfl, m⟩; have M := Lib.hid (M.out.trans m); clear m
    go_wp2
    go_ret
    exact ⟨rfl, M.out⟩
  · have hn' : decide (20000 < xs.length) = true := decide_eq_true (by omega)
    go_enter Try.func3, Try.ntmps3
    go_wp2_with fail
    refine (awake_any _).mono ?_; rintro e w5 ⟨rfl, m⟩; have M := Lib.hid (M.out.trans m); clear m
    go_wp2
    go_ret
    exact ⟨rfl, M.out⟩

theorem numFormats_fin (a : Int) (_ : I64 a) (b : Int) (_ : I64 b) (w : World) : Calls Try.prog 7 #[.int .i64 a, .int .i64 b] w fun e w' => e = .returned (.bool true) ∧ Mod NoBlock w w' := by
  have M := Lib.hid (Mod.refl NoBlock w)
  go_enter Try.func7, Try.ntmps7
  go_wp2_with fail
  refine (numFormat_any a b _).mono ?_; rintro e w1 ⟨rfl, m⟩; have M := Lib.hid (M.out.trans m); clear m
  go_wp2_with fail
  refine (refFormat_any a b _).mono ?_; rintro e w2 ⟨rfl, m⟩; have M := Lib.hid (M.out.trans m); clear m
  generalize (fmtN a b).1 = x
  generalize (fmtN a b).2 = y
  go_wp2_with fail
  refine (awake_any _).mono ?_; rintro e w5 ⟨rfl, m⟩; have M := Lib.hid (M.out.trans m); clear m
  go_wp2
  go_ret
  exact ⟨rfl, M.out⟩

theorem numParses_fin (s : ByteArray) (hs : s.size ≤ maxLen) (b : Int) (_ : I64 b) (w : World) : Calls Try.prog 8 #[.string s, .int .i64 b] w fun e w' => e = .returned (.bool true) ∧ Mod NoBlock w w' := by
  have M := Lib.hid (Mod.refl NoBlock w)
  have Hs := Lib.hid hs
  clear hs
  go_enter Try.func8, Try.ntmps8
  go_wp2_with fail
  refine (numParse_any s b Hs.out _).mono ?_; rintro e w1 ⟨⟨x, y⟩, hr, rfl, m⟩; have M := Lib.hid (M.out.trans m); have Hr := Lib.hid hr; clear m hr
  go_wp2_with fail
  refine (refParse_any s b Hs.out _).mono ?_; rintro e w2 ⟨r, hr, rfl, m⟩; have M := Lib.hid (M.out.trans m); clear m
  obtain rfl := hr.unique Hr.out
  go_wp2_with fail
  refine (awake_any _).mono ?_; rintro e w5 ⟨rfl, m⟩; have M := Lib.hid (M.out.trans m); clear m
  go_wp2
  go_ret
  exact ⟨rfl, M.out⟩

/-- Four numbers in a struct. -/
theorem numScales_fin (a : Int) (_ : I64 a) (b : Int) (_ : I64 b) (c : Int) (_ : I64 c) (d : Int) (_ : I64 d) (w : World) : Calls Try.prog 4 #[.agg #[.int .i64 a, .int .i64 b, .int .i64 c, .int .i64 d]] w fun e w' => e = .returned (.bool true) ∧ Mod NoBlock w w' := by
  have M := Lib.hid ((Mod.refl NoBlock w).alloc (.cells #[.int .i64 a, .int .i64 b, .int .i64 c, .int .i64 d] 29))
  go_enter Try.func4, Try.ntmps4
  go_wp2_with fail
  have hrow := rowIs_new w #[.int .i64 a, .int .i64 b, .int .i64 c, .int .i64 d] 29
  generalize w.alloc (.cells #[.int .i64 a, .int .i64 b, .int .i64 c, .int .i64 d] 29) = w0 at M hrow ⊢
  generalize w.heap.size = g at hrow ⊢
  refine (numScale_any a b c d _).mono ?_; rintro e w1 ⟨rfl, m⟩; have M := Lib.hid (M.out.trans m)
  have hrow1 := hrow.of_block (m.block g hrow.lt id)
  have g0 : w1.cell? ⟨g, 0, Option.none⟩ = some (.int .i64 a) := hrow1.cell (by simp)
  have g1 : w1.cell? ⟨g, 1, Option.none⟩ = some (.int .i64 b) := hrow1.cell (by simp)
  have g2 : w1.cell? ⟨g, 2, Option.none⟩ = some (.int .i64 c) := hrow1.cell (by simp)
  have g3 : w1.cell? ⟨g, 3, Option.none⟩ = some (.int .i64 d) := hrow1.cell (by simp)
  clear m hrow hrow1
  go_wp2_with fail
  refine (refScale_any a b c d _).mono ?_; rintro e w2 ⟨rfl, rfl⟩
  clear g0 g1 g2 g3
  generalize (scaleN a b c d).1 = x
  generalize (scaleN a b c d).2 = y
  go_wp2_with fail
  refine (awake_any _).mono ?_; rintro e w5 ⟨rfl, m⟩; have M := Lib.hid (M.out.trans m); clear m
  go_wp2
  go_ret
  exact ⟨rfl, M.out⟩

end Go.Proofs.Ytfihlofegginmaa
