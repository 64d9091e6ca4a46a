/-
  The statement on ContractBale: for every input the law returns true, and each argument reads as it did.
-/
import Derived.Test.YtnacoglfhhenhaaKz2
import Derived.Test.YtnacoglfhhenhaaOpen
import Derived.SizedLaws
import Derived.Test.YtnacoglfhhenhaaGo1
import Derived.Test.YtnacoglfhhenhaaKo
set_option linter.unusedVariables false
set_option linter.unusedSimpArgs false
namespace Go.Proofs.Ytnacoglfhhenhaa.contractBale
open Go.ChangeShapes Go.WideShapes Go.ChangeAt Go.RowKit
open Go.Proofs.Ytnacoglfhhenhaa

theorem own : ownKnob Try.prog.godebug = none := by kernel_rfl
theorem laidOut : laidOutB Try.prog = true := by kernel_rfl
theorem reads : ∀ t ∈ [22, 29, 35, 33], Try.prog.readableRec t = true ∧ t < Try.prog.types.size := by
  intro t ht
  rcases List.mem_cons.1 ht with rfl | ht
  · exact ⟨by kernel_rfl, of_decide_eq_true (by kernel_rfl)⟩
  rcases List.mem_cons.1 ht with rfl | ht
  · exact ⟨by kernel_rfl, of_decide_eq_true (by kernel_rfl)⟩
  rcases List.mem_cons.1 ht with rfl | ht
  · exact ⟨by kernel_rfl, of_decide_eq_true (by kernel_rfl)⟩
  rcases List.mem_cons.1 ht with rfl | ht
  · exact ⟨by kernel_rfl, of_decide_eq_true (by kernel_rfl)⟩
  cases ht

set_option maxRecDepth 100000 in
theorem lifted (os : Os) (started : os.Started) (H : Type) (enc : TypeId × Value → H) :
    ReturnsInHanded {} Try.checked os 9 .any (Rows.contractBaleSpec.pre6 enc Try.prog Try.f9 Rows.contractBaleRow.domain false) (Rows.contractBaleSpec.post enc Try.prog Try.f9 false true false false) := by
  refine returnsInHanded_of_change_sized (C := Try.checked) own started (by kernel_rfl) Try.func9
    (ChangeSpec.witness6 (enc := enc) (C := Try.checked) false ⟨#[], #[.slice Option.none 0 0, .slice Option.none 0 0, .slice Option.none 0 0, .agg #[.int .i64 0, .int .i64 0, .int .i64 0, .slice Option.none 0 0]], []⟩ 8 (by kernel_rfl) (by kernel_rfl) (by kernel_rfl) (by kernel_rfl)) ?_
  intro W base args ds gs before hval0 hW hcnd hsz0 _
  have hsz : (DataW.weightsEach Try.prog (Try.f9.params.toList ++ Rows.contractBaleSpec.plain.varTypes Try.prog) (ds ++ gs)).all (· ≤ reachBytes) = true := hsz0
  have hval : ∀ (j : Nat) t v, Try.f9.params[j]? = some t → args[j]? = some v → Value.okWide Try.prog W .any base t v := hval0
  have hW' := hW
  have hlt := fun x (hx : x ∈ before) => hW.lt x hx
  obtain ⟨p, q, hA0, hV, rfl, hfz, hnd⟩ := hW
  have hA : DataW.TrodAll enc Try.prog W 0 (fun _ => true) true Try.f9.params.toList args.toList ds p := hA0
  rw [Try.params9] at hA hval hsz
  obtain ⟨rfl, rfl⟩ := trodVars_none hV
  rw [List.append_nil] at hlt hfz
  have kA := hA
  obtain ⟨v0, vs0, d0, ds0, p0, q0, hargs, rfl, rfl, h0, r0⟩ := trodAll_cons hA
  obtain ⟨v1, vs1, d1, ds1, p1, q1, rfl, rfl, rfl, h1, r1⟩ := trodAll_cons r0
  obtain ⟨v2, vs2, d2, ds2, p2, q2, rfl, rfl, rfl, h2, r2⟩ := trodAll_cons r1
  obtain ⟨v3, vs3, d3, ds3, p3, q3, rfl, rfl, rfl, h3, r3⟩ := trodAll_cons r2
  obtain ⟨rfl, rfl, rfl⟩ := trodAll_nil r3
  obtain rfl : args = #[v0, v1, v2, v3] := by cases args; simp_all
  clear hA0 hval0
  obtain ⟨a0, c0, xs0, rfl, hx0, hc0⟩ := open_Ctrs (hval 0 22 v0 rfl rfl) h0 (fun b off hp => hfz b off (List.mem_append_left _ hp))
  obtain ⟨a1, c1, xs1, rfl, hx1, hc1⟩ := open_Grs Try.underlying29 Try.underlying51 (by kernel_rfl) (by kernel_rfl) (by kernel_rfl) rfl rfl (by kernel_rfl) (by kernel_rfl) (hval 1 29 v1 rfl rfl) h1 (fun b off hp => hfz b off (List.mem_append_right _ (List.mem_append_left _ hp)))
  obtain ⟨a2, c2, xs2, rfl, hx2, hc2, hd2⟩ := open_BalsC (hval 2 35 v2 rfl rfl) h2 (fun b off hp => hfz b off (List.mem_append_right _ (List.mem_append_right _ (List.mem_append_left _ hp))))
  have hk2 : xs2.length * 48 ≤ 140737488351232 := by
    rcases hd2 with rfl | ⟨el, sp, rfl, hl⟩
    · simp
    · have h9 := sized_slice hsz (j := 2) (t := 35) (e := 33) rfl rfl Try.underlying35
      rw [show Try.prog.bytesOf 33 = 48 by kernel_rfl, show reachBytes = 140737488351232 from rfl] at h9
      omega
  obtain ⟨y3, a3, c3, rfl, hy3⟩ := open_Bal (hval 3 33 v3 rfl rfl) h3 (fun b off hp => hfz b off (List.mem_append_right _ (List.mem_append_right _ (List.mem_append_right _ (List.mem_append_left _ hp)))))
  refine (contractBale_fin a0 c0 xs0 hx0 hc0 a1 c1 xs1 hx1 hc1 a2 c2 xs2 hx2 hc2 hk2 y3 a3 c3 hy3 W).mono fun e W' ⟨he, hm⟩ => ?_
  have bel := hm.below
  subst he
  exact ⟨_, rfl, _, _, _, [], _, [], hW', trodAll_mk1 (shut_bool Try.underlying4 _), trodAll_below laidOut bel _ _ _ _ reads kA hlt, rfl, bel.frame _, fun h => by cases h⟩

/-- The statement. -/
theorem holds : Rows.ContractBaleSaid :=
  OpenClaim.holds_of_wide 9 Try.f9 rfl rfl rfl rfl rfl rfl rfl ⟨rfl, rfl, rfl, rfl, rfl⟩ rfl rfl rfl rfl rfl (by kernel_rfl) Try.func9 (by kernel_rfl)
    (of_decide_eq_true (by kernel_rfl)) (by unfold Func.isWrapper; first | (rw [if_pos (by decide +kernel)]; kernel_rfl) | (rw [if_neg (by decide +kernel)]; exact ⟨rfl, rfl⟩))
    (fun os started H enc _ => lifted os started H enc)
#print axioms holds
end Go.Proofs.Ytnacoglfhhenhaa.contractBale
