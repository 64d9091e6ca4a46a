/-
  num.Parse and the reference's Parse.
-/
import Derived.Test.YtfihlofegginmaaNn
set_option linter.unusedVariables false
set_option linter.unusedSimpArgs false
namespace Go.Proofs.Ytfihlofegginmaa
open Go.RowKit

def ParsePost (s : ByteArray) (places : Int) (w : World) (e : Ending) (w' : World) : Prop :=
  ∃ r : Int × Int, ParseSpec s places r ∧ e = .returned (.tuple #[.int .i64 r.1, .int .i64 r.2]) ∧ Mod NoBlock w w'

theorem parse_bad {s : ByteArray} {places : Int} {w w' : World} (h : places < 0 ∨ 6 < places) (hm : Mod NoBlock w w') : ParsePost s places w (.returned (.tuple #[.int .i64 0, .int .i64 1])) w' :=
  ⟨(0, 1), by unfold ParseSpec; rw [if_pos h], rfl, hm⟩
theorem parse_form {s : ByteArray} {places : Int} {w w' : World} (h : ¬ (places < 0 ∨ 6 < places)) (hf : ∀ n, ¬ IsForm s places.toNat n) (hm : Mod NoBlock w w') : ParsePost s places w (.returned (.tuple #[.int .i64 0, .int .i64 3])) w' :=
  ⟨(0, 3), by unfold ParseSpec; rw [if_neg h]; exact .inr ⟨rfl, hf⟩, rfl, hm⟩
theorem parse_ok {s : ByteArray} {places n : Int} {w w' : World} (h : ¬ (places < 0 ∨ 6 < places)) (hf : IsForm s places.toNat n) (hm : Mod NoBlock w w') : ParsePost s places w (.returned (.tuple #[.int .i64 n, .int .i64 0])) w' :=
  ⟨(n, 0), by unfold ParseSpec; rw [if_neg h]; exact .inl ⟨hf, rfl⟩, rfl, hm⟩

theorem byte_mem {s : ByteArray} {i : Nat} (h : i < s.size) : ((s[i]'h).toNat : Int) ∈ bytesI s := by
  unfold bytesI
  refine List.mem_map.2 ⟨s[i]'h, ?_, rfl⟩
  show s.data[i] ∈ s.data.toList
  simp
theorem noform_char {s : ByteArray} {p : Nat} {i : Nat} (h : i < s.size) (hc : ¬ okC ((s[i]'h).toNat : Int)) : ∀ n, ¬ IsForm s p n := fun n hf => hc (hf.chars _ (byte_mem h))
theorem noform_big {s : ByteArray} {p : Nat} {i : Nat} (h : 1125899906842624 < valI ((bytesI s).take i)) : ∀ n, ¬ IsForm s p n := fun n hf => by
  have h1 := valI_take (bytesI s) i
  have h2 := hf.val
  have h3 := hf.small
  omega

theorem toList_inj {a b : ByteArray} (h : a.toList = b.toList) : a = b := by
  rw [ByteArray.toList_eq, ByteArray.toList_eq] at h
  exact ByteArray.ext (Array.ext' h)

/-- What the sign is after some bytes. -/
def SignOf (sg : Int) (l : List Int) : Prop := (sg = -1 ∧ 45 ∈ l) ∨ (sg = 1 ∧ 45 ∉ l)
theorem SignOf.snoc {sg : Int} {l : List Int} {c : Int} (h : SignOf sg l) (hc : c ≠ 45) : SignOf sg (l ++ [c]) := by
  rcases h with ⟨h1, h2⟩ | ⟨h1, h2⟩
  · exact .inl ⟨h1, by simp [h2]⟩
  · exact .inr ⟨h1, by simp [h2]; omega⟩
theorem form_cand {s : ByteArray} {p : Nat} {n sg : Int} (h : IsForm s p n) (hs : SignOf sg (bytesI s)) : n = sg * valI (bytesI s) := by
  rw [h.val]
  rw [h.bytes] at hs
  unfold SignOf at hs
  rw [fmt_minus] at hs
  rcases hs with ⟨rfl, hs⟩ | ⟨rfl, hs⟩ <;> omega

set_option maxRecDepth 100000 in
set_option maxHeartbeats 800000 in
theorem numParse_any (s : ByteArray) (places : Int) (hsz : s.size ≤ maxLen) (w : World) : Calls Try.prog 24 #[.string s, .int .i64 places] w fun e w' => ParsePost s places w e w' := by
  unfold maxLen at hsz
  by_cases hp : places < 0
  · go_enter Try.func24, Try.ntmps24
    go_wp2
    go_ret2
    exact parse_bad (.inl hp) (Mod.refl _ _)
  by_cases hp6 : 6 < places
  · go_enter Try.func24, Try.ntmps24
    go_wp2
    go_ret2
    exact parse_bad (.inr hp6) (Mod.refl _ _)
  have hok : ¬ (places < 0 ∨ 6 < places) := by omega
  have Hok := Lib.hid hok
  clear hok
  go_enter Try.func24, Try.ntmps24
  go_wp2
  go_loopw [6, 7, 9] (fun n sg u wr => ∃ (pos : Nat) (V S : Int), pos ≤ s.size ∧ wr = w.iter s pos ∧ n = .int .i64 V ∧ sg = .int .i64 S ∧ V = valI ((bytesI s).take pos) ∧ SignOf S ((bytesI s).take pos) ∧ 0 ≤ V ∧ V ≤ 1125899906842624) (fun _ _ _ wr => s.size - wr.iterPos w.heap.size)
  case atStart => exact ⟨0, 0, 1, by omega, rfl, rfl, rfl, rfl, .inr ⟨rfl, by simp⟩, by omega, by omega⟩
  case round =>
    obtain ⟨pos, V, S, hpos, rfl, rfl, rfl, hV, hS, v1, v2⟩ := hrel
    have HV := Lib.hid hV
    have HS := Lib.hid hS
    clear hV hS
    by_cases hlt : pos < s.size
    · have HT := Lib.hid (bytesI_take hlt)
      by_cases h128 : (s[pos]'hlt).toNat < 128
      · have hnx : ∀ ty, (Instr.next (.pointer (some ⟨w.heap.size, 0, none⟩)) true ty).run Try.prog (w.iter s pos) = _ := fun ty => run_next_ascii w s pos ty hlt h128
        have Hno := Lib.hid (fun (h : ¬ okC ((s[pos]'hlt).toNat : Int)) => noform_char (p := places.toNat) hlt h)
        generalize hc : ((s[pos]'hlt).toNat) = c at *
        clear hc
        have c1 : (c : Int) < 128 := by omega
        have c2 : (0 : Int) ≤ c := by omega
        rcases (by omega : c = 45 ∨ c = 46 ∨ (48 ≤ c ∧ c ≤ 57) ∨ (c ≠ 45 ∧ c ≠ 46 ∧ ¬ (48 ≤ c ∧ c ≤ 57))) with rfl | rfl | ⟨k1, k2⟩ | ⟨k1, k2, k3⟩
        · go_wp2
          refine ⟨⟨pos + 1, V, -1, by omega, rfl, rfl, rfl, ?_, ?_, v1, v2⟩, by simp; omega⟩
          · rw [HT.out, valI_snoc, ← HV.out]; rfl
          · rw [HT.out]; exact .inl ⟨rfl, by simp⟩
        · go_wp2
          refine ⟨⟨pos + 1, V, S, by omega, rfl, rfl, rfl, ?_, ?_, v1, v2⟩, by simp; omega⟩
          · rw [HT.out, valI_snoc, ← HV.out]; rfl
          · rw [HT.out]; exact HS.out.snoc (by omega)
        · have hval : valI ((bytesI s).take (pos + 1)) = 10 * V + ((c : Int) - 48) := by rw [HT.out, valI_snoc, ← HV.out, stepI, if_pos (by omega)]
          have Hval := Lib.hid hval
          have k1' : (48 : Int) ≤ c := by omega
          have k2' : (c : Int) ≤ 57 := by omega
          clear hval k1 k2
          by_cases hbig : 1125899906842624 < 10 * V + ((c : Int) - 48)
          · have Hbig := Lib.hid hbig
            go_wp2
            go_ret2
            exact parse_form Hok.out (noform_big (i := pos + 1) (by rw [Hval.out]; exact Hbig.out)) ((Mod.refl _ _).alloc _)
          · go_wp2
            exact ⟨⟨pos + 1, _, S, by omega, rfl, rfl, rfl, Hval.out.symm, by rw [HT.out]; exact HS.out.snoc (by omega), by omega, by omega⟩, by simp; omega⟩
        · have Hbad := Lib.hid (Hno.out (by unfold okC; omega))
          go_wp2
          all_goals go_ret2
          all_goals exact parse_form Hok.out Hbad.out ((Mod.refl _ _).alloc _)
      · have hnx : ∀ ty, (Instr.next (.pointer (some ⟨w.heap.size, 0, none⟩)) true ty).run Try.prog (w.iter s pos) = _ := fun ty => run_next_any w s pos ty hlt
        obtain ⟨r1, r3⟩ := decode_high s pos hlt (by omega)
        have r2 := decode_le s pos
        have Hbad := Lib.hid (noform_char (p := places.toNat) hlt (by unfold okC; omega))
        clear r3
        generalize (Utf8.decode s pos).1 = r at *
        generalize (Utf8.decode s pos).2 = wd at *
        have c1 : (128 : Int) ≤ r := by omega
        have c2 : (r : Int) ≤ 2147483647 := by omega
        clear r1 r2 h128 HT
        go_wp2
        all_goals go_ret2
        all_goals exact parse_form Hok.out Hbad.out ((Mod.refl _ _).alloc _)
    · have hnx : ∀ ty, (Instr.next (.pointer (some ⟨w.heap.size, 0, none⟩)) true ty).run Try.prog (w.iter s pos) = _ := fun ty => run_next_end w s pos ty hlt
      have htk : (bytesI s).take pos = bytesI s := List.take_of_length_le (by rw [bytesI_length]; omega)
      have hV := HV.out
      have hS := HS.out
      rw [htk] at hV hS
      have HV2 := Lib.hid hV
      have HS2 := Lib.hid hS
      have e1 : IntKind.i64.wrap (S * V) = S * V := by rcases hS with ⟨rfl, _⟩ | ⟨rfl, _⟩ <;> exact IntWalk.i64_in _ (by omega)
      have hin : fmtOk (S * V) places = true := by
        unfold fmtOk
        have : inB (S * V) = true := inB_true.2 (by rcases hS with ⟨rfl, _⟩ | ⟨rfl, _⟩ <;> omega)
        rw [this]
        simp
        omega
      have hcand : ∀ n, IsForm s places.toNat n → n = S * V := fun n hn => by rw [hV]; exact form_cand hn hS
      have hfmt := fmtN_ok hin
      have Hcand := Lib.hid hcand
      have Hfmt := Lib.hid hfmt
      have Hin := Lib.hid (fmt_true hin).1
      clear hV hS htk hin hcand hfmt
      obtain ⟨U, hU⟩ : ∃ U, S * V = U := ⟨_, rfl⟩
      have bU : -1125899906842624 ≤ U ∧ U ≤ 1125899906842624 := by rw [← hU]; exact inB_true.1 Hin.out
      rw [hU] at e1 Hcand Hfmt Hin
      obtain ⟨u1, u2⟩ := bU
      go_wp2_with (go_at_call 22; refine (numFormat_any U places _).mono ?_; rintro e w8 ⟨rfl, hm⟩; have Hm := Lib.hid hm; clear hm; rw [Hfmt.out])
      · have h : (!(strOfNums (fmtL U places.toNat)).toList == s.toList) = true := by assumption
        have HB := Lib.hid (fun n (hn : IsForm s places.toNat n) => (by
          have e0 := Hcand.out n hn
          subst e0
          rw [hn.2] at h
          simp at h : False))
        go_ret2
        exact parse_form Hok.out HB.out (((Mod.refl NoBlock w).alloc _).trans Hm.out)
      · have h : (!(strOfNums (fmtL U places.toNat)).toList == s.toList) = false := by assumption
        have HB := Lib.hid (show strOfNums (fmtL U places.toNat) = s from toList_inj (by simpa using h))
        go_ret2
        exact parse_ok Hok.out ⟨Hin.out, HB.out⟩ (((Mod.refl NoBlock w).alloc _).trans Hm.out)

theorem parse_ne {s : ByteArray} {p : Nat} {U : Int} {V : Int} (h : (!(strOfNums (fmtL U p)).toList == s.toList) = true) (hst : ∀ n, IsForm s p n → V ≤ 1125899906842624 ∧ n = U) : ∀ n, ¬ IsForm s p n := by
  intro n hn
  obtain ⟨_, rfl⟩ := hst n hn
  rw [hn.2] at h
  simp at h
theorem parse_eq {s : ByteArray} {p : Nat} {U : Int} (h : (!(strOfNums (fmtL U p)).toList == s.toList) = false) : strOfNums (fmtL U p) = s := toList_inj (by simpa using h)
theorem parse_nil {s : ByteArray} {p : Nat} (h : s.toList = []) : ∀ n, ¬ IsForm s p n := by
  intro n hn
  have h1 := (fmt_head n p).1
  rw [← hn.bytes] at h1
  rw [ByteArray.toList_eq] at h
  apply h1
  unfold bytesI
  rw [h]; rfl

theorem sign_head {s : ByteArray} (h : 0 < s.size) {p : Nat} {n : Int} (hf : IsForm s p n) : (((s[0]'h).toNat : Int) = 45 ↔ n < 0) := by
  have h1 := (fmt_head n p).2
  rw [← hf.bytes] at h1
  rw [← h1]
  have : ix (bytesI s) 0 = ((s[0]'h).toNat : Int) := by
    rw [ix_eq (by rw [bytesI_length]; exact h)]
    simp [bytesI]
    rfl
  rw [this]

set_option maxRecDepth 100000 in
set_option maxHeartbeats 800000 in
theorem refParse_any (s : ByteArray) (places : Int) (hsz : s.size ≤ maxLen) (w : World) : Calls Try.prog 25 #[.string s, .int .i64 places] w fun e w' => ParsePost s places w e w' := by
  unfold maxLen at hsz
  by_cases hp : places < 0
  · go_enter Try.func25, Try.ntmps25
    go_wp2
    go_ret2
    exact parse_bad (.inl hp) (Mod.refl _ _)
  by_cases hp6 : 6 < places
  · go_enter Try.func25, Try.ntmps25
    go_wp2
    go_ret2
    exact parse_bad (.inr hp6) (Mod.refl _ _)
  have hok : ¬ (places < 0 ∨ 6 < places) := by omega
  have Hok := Lib.hid hok
  clear hok
  go_enter Try.func25, Try.ntmps25
  go_wp2
  go_loopw [6, 7] (fun n i wr => ∃ (pos : Nat) (V : Int), pos ≤ s.size ∧ w = wr ∧ n = .int .i64 V ∧ i = .int .i64 pos ∧ V = valI ((bytesI s).take pos) ∧ 0 ≤ V ∧ V ≤ 11258999068426249) (fun _ i _ => s.size - (intOf i).toNat)
  case atStart => exact ⟨0, 0, by omega, rfl, rfl, rfl, rfl, by omega, by omega⟩
  case round =>
    obtain ⟨pos, V, hpos, rfl, rfl, rfl, hV, v1, v2⟩ := hrel
    have HV := Lib.hid hV
    clear hV
    by_cases hgo : pos < s.size ∧ V ≤ 1125899906842624
    · obtain ⟨hlt, hv⟩ := hgo
      have HT := Lib.hid (bytesI_take hlt)
      have hb := (s[pos]'hlt).toNat_lt
      go_wp2
      · refine ⟨⟨pos + 1, _, by omega, by trivial, rfl, by go_num, ?_, by omega, by omega⟩, by simp [intOf]; omega⟩
        rw [HT.out, valI_snoc, ← HV.out, stepI, if_pos (by omega)]
      all_goals
        refine ⟨⟨pos + 1, _, by omega, by trivial, rfl, by go_num, ?_, v1, v2⟩, by simp [intOf]; omega⟩
        rw [HT.out, valI_snoc, ← HV.out, stepI, if_neg (by omega)]
    · have hneg : ∃ (U : Int) (z : Bool), IntKind.i64.wrap (-V) = -V ∧ ((z = true ∧ U = -V) ∨ (z = false ∧ U = V)) ∧ ((s.toList = [] ∧ z = false) ∨ (s.toList.isEmpty = false ∧ ∃ h : 0 < s.size, (((s[0]'h).toNat : Int) == 45) = z)) := by
        have hw : IntKind.i64.wrap (-V) = -V := IntWalk.i64_in _ (by omega)
        by_cases h0 : s.size = 0
        · exact ⟨V, false, hw, .inr ⟨rfl, rfl⟩, .inl ⟨by rw [ByteArray.toList_eq]; exact List.eq_nil_of_length_eq_zero h0, rfl⟩⟩
        · have hl : s.toList.isEmpty = false := by
            rw [ByteArray.toList_eq]
            cases hd : s.data.toList with
            | nil => exact absurd (show s.data.toList.length = 0 by rw [hd]; rfl) h0
            | cons a l => rfl
          cases hz : (((s[0]'(by omega)).toNat : Int) == 45)
          · exact ⟨V, false, hw, .inr ⟨rfl, rfl⟩, .inr ⟨hl, by omega, hz⟩⟩
          · exact ⟨-V, true, hw, .inl ⟨rfl, rfl⟩, .inr ⟨hl, by omega, hz⟩⟩
      obtain ⟨U, z, hw, hU, hz⟩ := hneg
      have hstop : (∀ n, IsForm s places.toNat n → V ≤ 1125899906842624 ∧ n = U) := by
        intro n hn
        have hsm := hn.small
        have hvl := hn.val
        have htk := valI_take (bytesI s) pos
        rw [← HV.out] at htk
        have hV2 : V ≤ 1125899906842624 := by omega
        have hall : (bytesI s).take pos = bytesI s := List.take_of_length_le (by rw [bytesI_length]; omega)
        have hV3 := HV.out
        rw [hall, hvl] at hV3
        refine ⟨hV2, ?_⟩
        rcases hz with ⟨hz, rfl⟩ | ⟨_, h0, hz⟩
        · exfalso
          have h1 := (fmt_head n places.toNat).1
          rw [← hn.bytes] at h1
          rw [ByteArray.toList_eq] at hz
          apply h1
          unfold bytesI
          rw [hz]; rfl
        · have hh := sign_head h0 hn
          rcases hU with ⟨rfl, rfl⟩ | ⟨rfl, rfl⟩
          · rw [beq_iff_eq] at hz
            have := hh.1 hz
            omega
          · rw [beq_eq_false_iff_ne] at hz
            have : ¬ n < 0 := fun h => hz (hh.2 h)
            omega
      have Hstop := Lib.hid hstop
      have HVr := Lib.hid (show -11258999068426249 ≤ U ∧ U ≤ 11258999068426249 ∧ (inB U = true ↔ V ≤ 1125899906842624) from by
        rw [inB_true]
        rcases hU with ⟨_, rfl⟩ | ⟨_, rfl⟩ <;> omega)
      have hgo2 : pos < s.size → decide (V ≤ 1125899906842624) = false := fun h => decide_eq_false (fun h2 => hgo ⟨h, h2⟩)
      clear hstop
      by_cases hV : V ≤ 1125899906842624
      · have hpz : pos = s.size := by omega
        have hin : fmtOk U places = true := by
          unfold fmtOk
          rw [HVr.out.2.2.2 hV]
          simp
          omega
        have Hfmt := Lib.hid (fmtN_ok hin)
        have Hin := Lib.hid (fmt_true hin).1
        subst hpz
        have hE : (strOfNums (fmtL U places.toNat)).toList.isEmpty = false := by
          rw [ByteArray.toList_eq, strOfNums_data]
          have := (fmt_head U places.toNat).1
          cases hd : fmtL U places.toNat with
          | nil => exact absurd hd this
          | cons a l => rfl
        clear hin hgo hgo2
        rcases hU with ⟨rfl, rfl⟩ | ⟨rfl, rfl⟩
        all_goals
          rcases hz with ⟨hz, hz2⟩ | ⟨hz, h0, hz2⟩
          all_goals try (cases hz2; done)
          all_goals
            go_wp2_with (go_at_call 23; refine (refFormat_any _ places _).mono ?_; rintro e w8 ⟨rfl, hm⟩; have Hm := Lib.hid hm; clear hm; rw [Hfmt.out])
          all_goals
            first
              | (go_ret2; exact parse_form Hok.out (parse_nil hz) Hm.out)
              | (go_ret2; exact parse_form Hok.out (parse_ne ‹_› Hstop.out) Hm.out)
              | (go_ret2; exact parse_ok Hok.out ⟨Hin.out, parse_eq ‹_›⟩ Hm.out)
      · have hin : fmtOk U places = false := by
          unfold fmtOk
          cases h : inB U
          · simp
          · exact absurd (HVr.out.2.2.1 h) hV
        have Hfmt := Lib.hid (fmtN_bad hin)
        have dV : decide (V ≤ 1125899906842624) = false := decide_eq_false hV
        have Hno := Lib.hid (fun n (hn : IsForm s places.toNat n) => hV (Hstop.out n hn).1)
        clear hin hgo hgo2
        by_cases hps : pos < s.size
        all_goals
          rcases hU with ⟨rfl, rfl⟩ | ⟨rfl, rfl⟩
          all_goals
            rcases hz with ⟨hz, hz2⟩ | ⟨hz, h0, hz2⟩
            all_goals try (cases hz2; done)
            all_goals
              go_wp2_with (go_at_call 23; refine (refFormat_any _ places _).mono ?_; rintro e w8 ⟨rfl, hm⟩; have Hm := Lib.hid hm; clear hm; rw [Hfmt.out])
            all_goals (go_ret2; exact parse_form Hok.out Hno.out Hm.out)

end Go.Proofs.Ytfihlofegginmaa
