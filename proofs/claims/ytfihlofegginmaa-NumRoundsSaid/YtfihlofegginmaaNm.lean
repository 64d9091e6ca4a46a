/-
  num.Format and the reference's Format.
-/
import Derived.Test.YtfihlofegginmaaNl
import Derived.Test.YtfihlofegginmaaNb
set_option linter.unusedVariables false
set_option linter.unusedSimpArgs false
namespace Go.Proofs.Ytfihlofegginmaa
open Go.RowKit

def dotL (d : List Int) (p : Nat) : List Int := if p = 0 then d else d.take (d.length - p) ++ 46 :: d.drop (d.length - p)
/-- The decimal form of a number. -/
def fmtL (n : Int) (p : Nat) : List Int := if n < 0 then 45 :: dotL (digitsN n.natAbs (p + 1)) p else dotL (digitsN n.natAbs (p + 1)) p
def fmtOk (n places : Int) : Bool := inB n && decide (0 ≤ places) && decide (places ≤ 6)
def fmtN (n places : Int) : List Int × Int := if fmtOk n places then (fmtL n places.toNat, 0) else ([], 1)
theorem fmtN_bad {n places : Int} (h : fmtOk n places = false) : fmtN n places = ([], 1) := by simp [fmtN, h]
theorem fmtN_ok {n places : Int} (h : fmtOk n places = true) : fmtN n places = (fmtL n places.toNat, 0) := by simp [fmtN, h]
theorem fmt_cases {n places : Int} (h : fmtOk n places = false) : inB n = false ∨ (inB n = true ∧ (places < 0 ∨ ¬ places < 0 ∧ 6 < places)) := by
  cases h1 : inB n
  · exact .inl rfl
  · refine .inr ⟨rfl, ?_⟩
    unfold fmtOk at h
    rw [h1] at h
    simp at h
    omega
theorem fmt_true {n places : Int} (h : fmtOk n places = true) : inB n = true ∧ 0 ≤ places ∧ places ≤ 6 := by
  unfold fmtOk at h
  simp only [Bool.and_eq_true, decide_eq_true_eq] at h
  exact ⟨h.1.1, h.1.2, h.2⟩

theorem str_extract (xs : List Int) (a b : Nat) : (strOfNums xs).extract a b = strOfNums ((xs.take b).drop a) := by
  apply ByteArray.ext
  rw [ByteArray.data_extract]
  apply Array.ext'
  simp [strOfNums, List.map_drop, List.map_take, List.drop_take]
theorem str_dot : (⟨#[46]⟩ : ByteArray) = strOfNums [46] := rfl
theorem str_minus : (⟨#[45]⟩ : ByteArray) = strOfNums [45] := rfl
theorem str_zero : (⟨#[48]⟩ : ByteArray) = strOfNums [48] := rfl
theorem str_nil : (⟨#[]⟩ : ByteArray) = strOfNums [] := rfl

theorem dot_str {ds : List Int} {m p : Nat} (hl : ds.length = m + p) (hp : 0 < p) :
    (strOfNums ds).extract 0 m ++ ⟨#[46]⟩ ++ (strOfNums ds).extract m (m + p) = strOfNums (dotL ds p) ∧ (dotL ds p).length = m + p + 1 := by
  have e : dotL ds p = ds.take m ++ 46 :: ds.drop m := by
    unfold dotL
    rw [if_neg (by omega), hl, Nat.add_sub_cancel]
  rw [str_dot, str_extract, str_extract, str_append, str_append, e, List.drop_zero, List.take_of_length_le (show ds.length ≤ m + p by omega)]
  refine ⟨by simp, ?_⟩
  simp only [List.length_append, List.length_cons, List.length_take, List.length_drop]
  omega

set_option maxHeartbeats 800000 in
theorem numFormat_bad (n places : Int) (h : fmtOk n places = false) (w : World) : Calls Try.prog 22 #[.int .i64 n, .int .i64 places] w fun e w' => e = .returned (.tuple #[.string (strOfNums []), .int .i64 1]) ∧ Mod NoBlock w w' := by
  rcases fmt_cases h with h1 | ⟨h1, h2 | ⟨h2, h3⟩⟩
  all_goals
    have H1 := Lib.hid h1
    clear h h1
    go_enter Try.func22, Try.ntmps22
    go_wp2_with (go_at_call 32; refine (numIn1 n _ _).mono ?_; rintro e w9 ⟨rfl, hmc⟩; rw [H1.out])
    go_ret2
    exact ⟨rfl, hmc⟩

set_option maxRecDepth 100000 in
set_option maxHeartbeats 800000 in
theorem numFormat_ok (n places : Int) (h : fmtOk n places = true) (w : World) : Calls Try.prog 22 #[.int .i64 n, .int .i64 places] w fun e w' => e = .returned (.tuple #[.string (strOfNums (fmtL n places.toNat)), .int .i64 0]) ∧ Mod NoBlock w w' := by
  obtain ⟨h1, h2, h3⟩ := fmt_true h
  obtain ⟨p, rfl⟩ : ∃ p : Nat, places = p := ⟨places.toNat, by omega⟩
  have hin := inB_true.1 h1
  have Hin := Lib.hid hin
  have H1 := Lib.hid h1
  obtain ⟨X, hX⟩ : ∃ X : Nat, n.natAbs = X := ⟨_, rfl⟩
  have bX : X ≤ 1125899906842624 := by omega
  have eX : absN n = (X : Int) := by simp only [absN, hX]
  have hf : fmtL n (p : Int).toNat = if n < 0 then 45 :: dotL (digitsN X (p + 1)) p else dotL (digitsN X (p + 1)) p := by unfold fmtL; rw [hX]; rfl
  have hlen : (digitsN X (p + 1)).length = lenD X (p + 1) := digs_length _ _
  obtain ⟨l1, l2⟩ := lenD_bounds (n := X) (least := p + 1) (by omega) (by omega)
  have Hdig : ∀ w, Calls Try.prog 40 #[.int .i64 X, .int .i64 ((p : Int) + 1)] w fun e w' => e = .returned (.string (strOfNums (digitsN X (p + 1)))) ∧ Mod NoBlock w w' := fun w => numDigits_any X (p + 1) bX (by omega) (by omega) w
  generalize digitsN X (p + 1) = ds at *
  generalize lenD X (p + 1) = K at *
  obtain ⟨m, rfl⟩ : ∃ m, K = m + p := ⟨K - p, by omega⟩
  have HD := Lib.hid Hdig
  have z1 : (strOfNums ds).size = m + p := by rw [strOfNums_size, hlen]
  have HF := Lib.hid hf
  have Hlen := Lib.hid hlen
  clear h h1 hin hX Hdig hf hlen
  rcases Nat.eq_zero_or_pos p with rfl | hp
  · go_enter Try.func22, Try.ntmps22
    go_wp2_with (first
      | (go_at_call 32; refine (numIn1 n _ _).mono ?_; rintro e w9 ⟨rfl, hmc⟩; rw [H1.out]; have Hmc := Lib.hid hmc; clear hmc)
      | (go_at_call 34; refine (numAbs_any _ (by have := Hin.out; omega) _).mono ?_; rintro e w8 ⟨rfl, rfl⟩)
      | (go_at_call 40; refine (HD.out _).mono ?_; rintro e w8 ⟨rfl, hmd⟩; have Hmd := Lib.hid hmd; clear hmd))
    all_goals go_ret2
    · rw [str_minus, str_append, HF.out, if_pos (by assumption)]
      exact ⟨rfl, Hmc.out.trans Hmd.out⟩
    · rw [HF.out, if_neg (by omega)]
      exact ⟨rfl, Hmc.out.trans Hmd.out⟩
  · have e2 : IntKind.i64.wrap (((m + p : Nat) : Int) - p) = (m : Int) := by rw [IntWalk.i64_in _ (by omega)]; omega
    obtain ⟨hd1, hd2⟩ := dot_str (Hlen.out) hp
    have HS := Lib.hid hd1
    have z2 : (strOfNums (dotL ds p)).size = m + p + 1 := by rw [strOfNums_size, hd2]
    clear hd1 hd2
    go_enter Try.func22, Try.ntmps22
    go_wp2_with (first
      | (go_at_call 32; refine (numIn1 n _ _).mono ?_; rintro e w9 ⟨rfl, hmc⟩; rw [H1.out]; have Hmc := Lib.hid hmc; clear hmc)
      | (go_at_call 34; refine (numAbs_any _ (by have := Hin.out; omega) _).mono ?_; rintro e w8 ⟨rfl, rfl⟩)
      | (go_at_call 40; refine (HD.out _).mono ?_; rintro e w8 ⟨rfl, hmd⟩; have Hmd := Lib.hid hmd; clear hmd))
    go_quiet (fail)
    rw [HS.out]
    go_wp2
    all_goals go_ret2
    · rw [str_minus, str_append, HF.out, if_pos (by assumption)]
      exact ⟨rfl, (Hmc.out.trans Hmd.out).drewN _⟩
    · rw [HF.out, if_neg (by omega)]
      exact ⟨rfl, (Hmc.out.trans Hmd.out).drewN _⟩

set_option maxHeartbeats 800000 in
theorem refFormat_bad (n places : Int) (h : fmtOk n places = false) (w : World) : Calls Try.prog 23 #[.int .i64 n, .int .i64 places] w fun e w' => e = .returned (.tuple #[.string (strOfNums []), .int .i64 1]) ∧ Mod NoBlock w w' := by
  rcases fmt_cases h with h1 | ⟨h1, h2 | ⟨h2, h3⟩⟩
  all_goals
    have H1 := Lib.hid h1
    clear h h1
    go_enter Try.func23, Try.ntmps23
    go_wp2_with (go_at_call 18; refine (refIn_any n _).mono ?_; rintro e w9 ⟨rfl, rfl⟩; rw [H1.out])
    go_ret2
    exact ⟨rfl, Mod.refl _ _⟩

def strLen (v : Value) : Nat := match v with | .string b => b.size | _ => 0

set_option maxRecDepth 100000 in
set_option maxHeartbeats 800000 in
theorem refFormat_ok (n places : Int) (h : fmtOk n places = true) (w : World) : Calls Try.prog 23 #[.int .i64 n, .int .i64 places] w fun e w' => e = .returned (.tuple #[.string (strOfNums (fmtL n places.toNat)), .int .i64 0]) ∧ Mod NoBlock w w' := by
  obtain ⟨h1, h2, h3⟩ := fmt_true h
  obtain ⟨p, rfl⟩ : ∃ p : Nat, places = p := ⟨places.toNat, by omega⟩
  have hin := inB_true.1 h1
  have Hin := Lib.hid hin
  have H1 := Lib.hid h1
  obtain ⟨X, hX⟩ : ∃ X : Nat, n.natAbs = X := ⟨_, rfl⟩
  have bX : X ≤ 1125899906842624 := by omega
  have eX : absN n = (X : Int) := by simp only [absN, hX]
  have hf : fmtL n (p : Int).toNat = if n < 0 then 45 :: dotL (digitsN X (p + 1)) p else dotL (digitsN X (p + 1)) p := by unfold fmtL; rw [hX]; rfl
  have hdig : ∀ w, Calls Try.prog 41 #[.int .i64 X] w fun e w' => e = .returned (.string (strOfNums (digs (lenD X 1) X))) ∧ Mod NoBlock w w' := fun w => refDigits_any X bX w
  have HD := Lib.hid hdig
  have HF := Lib.hid hf
  have hX10 : X < 10 ^ 16 := by omega
  have hX20 : X < 10 ^ 20 := by omega
  have hs0 := lenD_spec (least := 1) hX20
  have hb0 := lenD_bounds (least := 1) hX10 (by omega)
  have Hs0 := Lib.hid hs0
  have Hb0 := Lib.hid hb0
  clear h h1 hin hX hdig hf hs0 hb0
  go_enter Try.func23, Try.ntmps23
  go_wp2_with (first
    | (go_at_call 18; refine (refIn_any n _).mono ?_; rintro e w9 ⟨rfl, rfl⟩; rw [H1.out])
    | (go_at_call 38; refine (refAbs_any _ (by have := Hin.out; omega) _).mono ?_; rintro e w8 ⟨rfl, rfl⟩)
    | (go_at_call 41; refine (HD.out _).mono ?_; rintro e w7 ⟨rfl, hmd⟩; have Hmd := Lib.hid hmd; clear hmd))
  go_loopw [6] (fun s wr => ∃ j : Nat, 1 ≤ j ∧ j ≤ 16 ∧ s = .string (strOfNums (digs j X)) ∧ X < 10 ^ j ∧ (j ≤ p + 1 ∨ 10 ^ (j - 1) ≤ X) ∧ Mod NoBlock w wr) (fun s _ => 20 - strLen s)
  case atStart => exact ⟨lenD X 1, by have := Hb0.out; omega, by have := Hb0.out; omega, rfl, Hs0.out.1, by have := Hs0.out.2; omega, Hmd.out⟩
  case round =>
    obtain ⟨j, hj1, hj, rfl, hlt, hmin, hm⟩ := hrel
    have Hlt := Lib.hid hlt
    have Hmin := Lib.hid hmin
    have Hm := Lib.hid hm
    have z1 : (strOfNums (digs j X)).size = j := by rw [strOfNums_size, digs_length]
    have hc := digits_pad hlt
    clear hlt hmin hm
    by_cases hjp : j ≤ p
    · have HC := Lib.hid hc
      have z2 : (strOfNums (digs (j + 1) X)).size = j + 1 := by rw [strOfNums_size, digs_length]
      clear hc
      go_wp2
      have e9 : (⟨#[48]⟩ : ByteArray) ++ strOfNums (digs j X) = strOfNums (digs (j + 1) X) := by rw [HC.out, str_zero, str_append]; rfl
      rw [e9]
      exact ⟨⟨j + 1, by omega, by omega, rfl, by have := Hlt.out; rw [Nat.pow_succ]; omega, .inl (by omega), Hm.out⟩, by simp [strLen, z1, z2]; omega⟩
    · have hK := lenD_unique (j := j) (least := p + 1) (n := X) hX20 Hlt.out (by omega) Hmin.out
      have HK := Lib.hid (show digitsN X (p + 1) = digs j X by unfold digitsN; rw [← hK])
      rw [HK.out] at HF
      have hlen := digs_length j X
      clear hK hc
      generalize digs j X = ds at *
      obtain ⟨m, rfl⟩ : ∃ m, j = m + p := ⟨j - p, by omega⟩
      rcases Nat.eq_zero_or_pos p with rfl | hp
      · clear hlen
        go_wp2
        all_goals go_ret2
        · rw [str_minus, str_append, HF.out, if_pos (by assumption)]
          exact ⟨rfl, Hm.out⟩
        · rw [HF.out, if_neg (by omega)]
          exact ⟨rfl, Hm.out⟩
      · have e2 : IntKind.i64.wrap (((m + p : Nat) : Int) - p) = (m : Int) := by rw [IntWalk.i64_in _ (by omega)]; omega
        obtain ⟨hd1, hd2⟩ := dot_str hlen hp
        have HS := Lib.hid hd1
        have z2 : (strOfNums (dotL ds p)).size = m + p + 1 := by rw [strOfNums_size, hd2]
        clear hd1 hd2 hlen
        go_wp2
        go_quiet (fail)
        rw [HS.out]
        go_wp2
        all_goals go_ret2
        · rw [str_minus, str_append, HF.out, if_pos (by assumption)]
          exact ⟨rfl, Hm.out.drewN _⟩
        · rw [HF.out, if_neg (by omega)]
          exact ⟨rfl, Hm.out.drewN _⟩

theorem numFormat_any (n places : Int) (w : World) : Calls Try.prog 22 #[.int .i64 n, .int .i64 places] w fun e w' => e = .returned (.tuple #[.string (strOfNums (fmtN n places).1), .int .i64 (fmtN n places).2]) ∧ Mod NoBlock w w' := by
  cases h : fmtOk n places
  · rw [fmtN_bad h]; exact numFormat_bad n places h w
  · rw [fmtN_ok h]; exact numFormat_ok n places h w
theorem refFormat_any (n places : Int) (w : World) : Calls Try.prog 23 #[.int .i64 n, .int .i64 places] w fun e w' => e = .returned (.tuple #[.string (strOfNums (fmtN n places).1), .int .i64 (fmtN n places).2]) ∧ Mod NoBlock w w' := by
  cases h : fmtOk n places
  · rw [fmtN_bad h]; exact refFormat_bad n places h w
  · rw [fmtN_ok h]; exact refFormat_ok n places h w

end Go.Proofs.Ytfihlofegginmaa
