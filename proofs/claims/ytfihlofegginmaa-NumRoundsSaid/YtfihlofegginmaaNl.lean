/-
  num.digits and the reference's digits.
-/
import Derived.Test.YtfihlofegginmaaNk
import Derived.Test.YtfihlofegginmaaNa
set_option linter.unusedVariables false
set_option linter.unusedSimpArgs false
namespace Go.Proofs.Ytfihlofegginmaa
open Go.RowKit

theorem slice_tail (w : World) (b p j : Nat) (h : p + j = 24) (hj : 0 < j) :
    (Instr.sliceAt 52 (.pointer (some ⟨b, 0, Option.none⟩)) (some (.int .i64 p)) Option.none Option.none).run Try.prog w = .ok (.slice (some ⟨b, p, Option.none⟩) j j) w := by
  have hl : Try.prog.arrayLen 52 = 24 := by kernel_rfl
  have ht : Try.prog.underlying 52 = some (.array (Try.prog.arrayLen 52) (Try.prog.elem 52)) := by kernel_rfl
  have hz : (sizeOf (Try.prog.elem 52)).run Try.prog w = .ok 1 w := by kernel_rfl
  rw [run_sliceAt_array_l w _ ⟨b, 0, Option.none⟩ ht .i64 (p : Int) (by omega) (by rw [hl]; omega), hz, hl]
  have : ¬ 24 = p := by omega
  have e : 24 - p = j := by omega
  simp [slicedAt, Result.andThen, this, e, Addr.add]
  omega

theorem convert_bytes (w : World) (b off len cap : Nat) (xs : List Int) (hlen : xs.length = len) (hcell : ∀ i, i < len → w.cell? ⟨b, off + i, Option.none⟩ = some (.int .u8 (ix xs i))) :
    (convert 53 9 (.slice (some ⟨b, off, Option.none⟩) len cap)).run Try.prog w = .ok (.string (strOfNums xs)) w :=
  run_convert_bytes_arg w _ 5 (by kernel_rfl) (by kernel_rfl) b off len cap xs hlen hcell _ (by kernel_rfl)

set_option maxRecDepth 100000 in
set_option maxHeartbeats 800000 in
theorem numDigits_any (n least : Nat) (hn : n ≤ 1125899906842624) (hl0 : 1 ≤ least) (hl : least ≤ 7) (w : World) :
    Calls Try.prog 40 #[.int .i64 n, .int .i64 least] w fun e w' => e = .returned (.string (strOfNums (digitsN n least))) ∧ Mod NoBlock w w' := by
  go_enter Try.func40, Try.ntmps40
  go_wp2
  have hn10 : n < 10 ^ 16 := by omega
  go_loopw [0, 6] (fun x at_ wr => ∃ (j p q : Nat) (f : Nat → Value), p + j = 24 ∧ j ≤ 16 ∧ at_ = .int .i64 p ∧ x = .int .i64 q ∧ q = n / 10 ^ j ∧ (j ≤ least ∨ 10 ^ (j - 1) ≤ n) ∧ wr.rowIs w.heap.size 52 24 f ∧ (∀ i, i < j → f (p + i) = .int .u8 (ix (digs j n) i)) ∧ Mod NoBlock w wr) (fun x at_ _ => (intOf at_).toNat)
  case atStart => exact ⟨0, 24, n, _, rfl, by omega, rfl, rfl, by simp, .inl (by omega), rowIs_new w _ _, fun i hi => absurd hi (by omega), (Mod.refl _ _).alloc _⟩
  case round =>
    obtain ⟨j, p, q, f, hpj, hj, rfl, rfl, hq, hmin, hrow, hf, hm⟩ := hrel
    have Hq := Lib.hid hq
    have Hmin := Lib.hid hmin
    have Hrow := Lib.hid hrow
    have Hf := Lib.hid hf
    have Hm := Lib.hid hm
    have hqn : q ≤ n := by rw [hq]; exact Nat.div_le_self _ _
    clear hq hmin hrow hf hm
    by_cases hgo : 0 < q ∨ j < least
    · have hj15 : j < 16 := by
        by_cases h16 : j = 16
        · subst h16
          have h0 : q = 0 := by rw [Hq.out]; exact Nat.div_eq_of_lt hn10
          omega
        · omega
      obtain ⟨p', rfl⟩ : ∃ p', p = p' + 1 := ⟨p - 1, by omega⟩
      have hq9 : q % 10 ≤ 9 := by omega
      have hq8 : q % 10 ≤ q := Nat.mod_le _ _
      have e1 : (q : Int) % 10 = ((q % 10 : Nat) : Int) := by simp
      have e2 : (q : Int) / 10 = ((q / 10 : Nat) : Int) := by simp
      have hdq := Nat.div_le_self q 10
      have hmin2 : j + 1 ≤ least ∨ 10 ^ (j + 1 - 1) ≤ n := by
        rcases hgo with h | h
        · refine .inr ?_
          have := Hq.out
          rw [Nat.add_sub_cancel]
          rw [this] at h
          exact (Nat.div_pos_iff.1 h).2
        · exact .inl h
      have Hmin2 := Lib.hid hmin2
      have hq2 : q / 10 = n / 10 ^ (j + 1) := by rw [Hq.out, Nat.div_div_eq_div_mul, ← Nat.pow_succ]
      have hc : digs (j + 1) n = (48 + ((q % 10 : Nat) : Int)) :: digs j n := by rw [digs_cons, Hq.out]
      have Hq2 := Lib.hid hq2
      have HC := Lib.hid hc
      generalize q % 10 = r at *
      generalize q / 10 = s at *
      have d0 : decide (0 < q ∨ j < least) = true := decide_eq_true hgo
      have hfz := Hrow.out.frozen p'
      have hcl := Hrow.out.cell (i := p') (by omega)
      clear hmin2 hq2 hc
      have p23 : (p' : Int) ≤ 23 := by omega
      by_cases hq0 : 0 < q
      all_goals
        try have hq0' : q = 0 := by omega
        try subst hq0'
        try have d1 : decide ((24 : Int) - (p' + 1) < least) = true := decide_eq_true (by omega)
        go_wp2
        refine ⟨⟨j + 1, p', s, _, by omega, by omega, rfl, by first | rfl | (congr 1 <;> omega), Hq2.out, Hmin2.out, Hrow.out.set p' _, fun i hi => ?_, Hm.out.setCell (p := ⟨w.heap.size, p', Option.none⟩) (.inr (Nat.le_refl _)) _⟩, by simp [intOf]⟩
        rw [HC.out]
        cases i with
        | zero => first | (simp [ix]; done) | (simp [ix]; omega)
        | succ i =>
          have h1 := Hf.out i (by omega)
          rw [show p' + 1 + i = p' + (i + 1) by omega] at h1
          show (if p' + (i + 1) = p' then _ else f (p' + (i + 1))) = _
          rw [if_neg (by omega), h1]
          rfl
    · have hq0 : q = 0 := by omega
      subst hq0
      have hj0 : 0 < j := by omega
      have hK := lenD_unique (j := j) (least := least) (n := n) (by omega) (by
        have := Hq.out
        have h10 : 0 < 10 ^ j := Nat.pow_pos (by omega)
        rcases Nat.div_eq_zero_iff.1 this.symm with h | h <;> omega) (by omega) Hmin.out
      have HK := Lib.hid (show digitsN n least = digs j n by unfold digitsN; rw [← hK])
      have d1 : decide ((24 : Int) - p < least) = false := decide_eq_false (by omega)
      have hs1 := slice_tail wr w.heap.size p j hpj hj0
      have hs2 := convert_bytes wr w.heap.size p j j (digs j n) (digs_length j n) (fun i hi => by rw [Hrow.out.cell (by omega), Hf.out i hi])
      have Hpj := Lib.hid hpj
      have p24 : (p : Int) ≤ 24 := by omega
      clear hK hpj hgo
      go_wp2
      go_ret
      rw [HK.out]
      exact ⟨rfl, Hm.out⟩

theorem str_append (xs ys : List Int) : strOfNums xs ++ strOfNums ys = strOfNums (xs ++ ys) := by
  apply ByteArray.ext
  rw [ByteArray.data_append]
  simp [strOfNums]

theorem convert_one (w : World) (x : Int) :
    (convert 53 9 (.slice (some ⟨w.heap.size, 0, Option.none⟩) 1 1)).run Try.prog (w.alloc (.cells #[.int .u8 x] 5)) = .ok (.string (strOfNums [x])) (w.alloc (.cells #[.int .u8 x] 5)) :=
  convert_bytes _ w.heap.size 0 1 1 [x] rfl (fun i hi => by
    obtain rfl : i = 0 := by omega
    exact cell_new w _ _ 0 _ rfl)

set_option maxRecDepth 100000 in
set_option maxHeartbeats 800000 in
theorem refDigits_any (n : Nat) (hn : n ≤ 1125899906842624) (w : World) :
    Calls Try.prog 41 #[.int .i64 n] w fun e w' => e = .returned (.string (strOfNums (digitsN n 1))) ∧ Mod NoBlock w w' := by
  have hn10 : n < 10 ^ 16 := by omega
  have e1 : (n : Int) % 10 = ((n % 10 : Nat) : Int) := by simp
  have e2 : (n : Int) / 10 = ((n / 10 : Nat) : Int) := by simp
  have hr : n % 10 ≤ 9 := by omega
  have hc : digs 1 n = [48 + ((n % 10 : Nat) : Int)] := by simp [digs]
  have HC := Lib.hid hc
  obtain ⟨r, hrd⟩ : ∃ r, n % 10 = r := ⟨_, rfl⟩
  obtain ⟨s, hsd⟩ : ∃ r, n / 10 = r := ⟨_, rfl⟩
  rw [hrd] at e1 hr hc
  rw [hsd] at e2
  have HC := Lib.hid hc
  have hcv := convert_one w (48 + (r : Int))
  clear hc
  go_enter Try.func41, Try.ntmps41
  go_wp2
  go_loopw [0, 3] (fun x t wr => ∃ (j q : Nat), 1 ≤ j ∧ j ≤ 16 ∧ x = .int .i64 q ∧ t = .string (strOfNums (digs j n)) ∧ q = n / 10 ^ j ∧ (j ≤ 1 ∨ 10 ^ (j - 1) ≤ n) ∧ Mod NoBlock w wr) (fun x _ _ => (intOf x).toNat)
  case atStart => exact ⟨1, s, by omega, by omega, rfl, by rw [HC.out], by rw [← hsd], .inl (by omega), (Mod.refl _ _).alloc _⟩
  case round =>
    obtain ⟨j, q, hj1, hj, rfl, rfl, hq, hmin, hm⟩ := hrel
    have Hq := Lib.hid hq
    have Hmin := Lib.hid hmin
    have Hm := Lib.hid hm
    have hqn : q ≤ n := by rw [hq]; exact Nat.div_le_self _ _
    clear hq hmin hm hcv e1 e2 hrd hsd hr HC
    by_cases hgo : 0 < q
    · have hj15 : j < 16 := by
        by_cases h16 : j = 16
        · subst h16
          have h0 : q = 0 := by rw [Hq.out]; exact Nat.div_eq_of_lt hn10
          omega
        · omega
      have hq9 : q % 10 ≤ 9 := by omega
      have e1 : (q : Int) % 10 = ((q % 10 : Nat) : Int) := by simp
      have e2 : (q : Int) / 10 = ((q / 10 : Nat) : Int) := by simp
      have hdq := Nat.div_lt_self hgo (show 1 < 10 by omega)
      have hmin2 : j + 1 ≤ 1 ∨ 10 ^ (j + 1 - 1) ≤ n := by
        refine .inr ?_
        have := Hq.out
        rw [Nat.add_sub_cancel]
        rw [this] at hgo
        exact (Nat.div_pos_iff.1 hgo).2
      have Hmin2 := Lib.hid hmin2
      have hq2 : q / 10 = n / 10 ^ (j + 1) := by rw [Hq.out, Nat.div_div_eq_div_mul, ← Nat.pow_succ]
      have hc : digs (j + 1) n = (48 + ((q % 10 : Nat) : Int)) :: digs j n := by rw [digs_cons, Hq.out]
      have Hq2 := Lib.hid hq2
      have HC := Lib.hid hc
      generalize q % 10 = r at *
      generalize q / 10 = s at *
      have hcv := convert_one wr (48 + (r : Int))
      have z1 : (strOfNums [48 + (r : Int)]).size = 1 := strOfNums_size _
      have z2 : (strOfNums (digs j n)).size = j := by rw [strOfNums_size, digs_length]
      clear hmin2 hq2 hc
      go_wp2
      exact ⟨⟨j + 1, s, by omega, by omega, rfl, by rw [HC.out, str_append]; rfl, Hq2.out, Hmin2.out, Hm.out.alloc _⟩, by simp [intOf]; omega⟩
    · have hq0 : q = 0 := by omega
      subst hq0
      have hK := lenD_unique (j := j) (least := 1) (n := n) (by omega) (by
        have := Hq.out
        have h10 : 0 < 10 ^ j := Nat.pow_pos (by omega)
        rcases Nat.div_eq_zero_iff.1 this.symm with h | h <;> omega) (by omega) Hmin.out
      have HK := Lib.hid (show digitsN n 1 = digs j n by unfold digitsN; rw [← hK])
      clear hK hgo
      go_wp2
      go_ret
      rw [HK.out]
      exact ⟨rfl, Hm.out⟩

end Go.Proofs.Ytfihlofegginmaa
