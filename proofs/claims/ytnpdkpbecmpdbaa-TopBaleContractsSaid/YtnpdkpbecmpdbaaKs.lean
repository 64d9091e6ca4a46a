/-
  contract: what an assignment leaves is least.
-/
import Derived.Test.YtnpdkpbecmpdbaaKq
set_option linter.unusedVariables false
set_option linter.unusedSimpArgs false
namespace Go.Proofs.Ytnpdkpbecmpdbaa
open Go.RowKit

section
variable {g : List (Int × Int)} {l : List Ctr} {bs : List Bal} {cols : List Int}
theorem costs_ix {i j : Nat} (hi : i < l.length) (hj : j < bs.length) : ix (rx (costsL g l bs) i) j = costB g (cx l i) (bx bs j) := by
  unfold costsL
  rw [rowsI_rx hi, rowI_ix hj]
  rfl
theorem skip_ix {i : Nat} (hi : i < l.length) : ix (skipL l) i = missC (cx l i) 0 := by
  unfold skipL
  rw [rowI_ix hi]
  rfl
theorem costB_no {x : Ctr} {y : Bal} (hN : NumC x) : costB g x y = -1 ↔ fitB x g y = false := by
  unfold costB
  cases hf : fitB x g y
  · simp
  · have := missC_bd hN (tot_fit hf).2.1
    rw [if_pos rfl]
    constructor
    · intro h; omega
    · intro h; cases h
theorem okRow_errV {i : Nat} (hN : NumC (cx l i)) (hi : i < l.length) : OkRow g l bs cols i ↔ errV bs.length (costsL g l bs) cols i = 0 := by
  constructor
  · rintro (h | ⟨h0, h1, h2, h3⟩)
    · exact errV_none h
    · obtain ⟨x, hx⟩ : ∃ x : Nat, ix cols i = x := ⟨(ix cols i).toNat, by omega⟩
      rw [hx] at h1 h2 h3
      rw [Int.toNat_natCast] at h2
      refine errV_good hx (by omega) ?_ ?_
      · cases ht : tk cols i x
        · rfl
        · obtain ⟨j, hj, e⟩ := tk_iff.1 ht
          exact absurd e (h3 j hj)
      · rw [costs_ix hi (by omega)]
        intro e
        rw [(costB_no hN).1 e] at h2
        cases h2
  · intro h
    unfold errV at h
    by_cases g1 : ix cols i < -1 ∨ (bs.length : Int) ≤ ix cols i
    · rw [if_pos g1] at h; cases h
    rw [if_neg g1] at h
    by_cases g2 : ix cols i = -1
    · exact .inl g2
    rw [if_neg g2] at h
    cases ht : tk cols i (ix cols i)
    · rw [ht, if_neg (by decide)] at h
      by_cases g3 : ix (rx (costsL g l bs) i) (ix cols i).toNat = -1
      · rw [if_pos g3] at h; cases h
      rw [costs_ix hi (by omega)] at g3
      refine .inr ⟨by omega, by omega, ?_, fun j hj e => ?_⟩
      · cases hf : fitB (cx l i) g (bx bs (ix cols i).toNat)
        · exact absurd ((costB_no hN).2 hf) g3
        · rfl
      · rw [tk_iff.2 ⟨j, hj, e⟩] at ht; cases ht
    · rw [ht, if_pos rfl] at h; cases h
theorem valRow_costV {i : Nat} (hi : i < l.length) (h : OkRow g l bs cols i) : valRow g l bs cols i = costV (costsL g l bs) (skipL l) cols i := by
  unfold valRow costV
  rcases h with h | ⟨h0, h1, _⟩
  · rw [if_pos h, if_pos h, skip_ix hi]
  · rw [if_neg (by omega), if_neg (by omega), costs_ix hi (by omega)]

/-- The assignment is valid, its sum is what is returned, and no other one has less. -/
theorem asg_least {t : Int} (he : errA g l bs = 0) (h : AsgIs g l bs cols t) :
    cols.length = l.length ∧ l.length ≤ 16 ∧ (∀ i, i < l.length → NumC (cx l i)) ∧ (∀ i, i < l.length → OkRow g l bs cols i) ∧ sumR l.length (valRow g l bs cols) = t ∧
      ∀ cols' : List Int, (∀ i, i < l.length → OkRow g l bs cols' i) → t ≤ sumR l.length (valRow g l bs cols') := by
  rcases h with ⟨h, _⟩ | ⟨_, wf, hF, hce⟩
  · exact absurd he h
  unfold errA at he
  by_cases g1 : chkG g = 0
  case neg => rw [if_pos g1] at he; exact absurd he g1
  rw [if_neg (by rw [g1]; decide)] at he
  by_cases g2 : chkC l g.length = 0
  case neg => rw [if_pos g2] at he; exact absurd he g2
  rw [if_neg (by rw [g2]; decide)] at he
  obtain ⟨f1, f2, _⟩ := chkC_facts g2
  have hN : ∀ i, i < l.length → NumC (cx l i) := fun i hi => (ctrE_ok (f2 i hi)).1
  have hp := probOk he
  rw [costsL_length] at hp
  by_cases h0 : l.length = 0
  · have hs : ∀ f, sumR l.length f = 0 := fun f => by rw [h0]; rfl
    have ht := hF.cost
    rw [show cost _ l.length wf = 0 from hs _] at ht
    refine ⟨by rw [hce, rowI_length], f1, hN, fun i hi => by omega, by rw [hs]; exact ht, fun c _ => by rw [hs]; omega⟩
  have hk : (rx (costsL g l bs) 0).length = bs.length := by unfold costsL; rw [rowsI_rx (by omega), rowI_length]
  rw [hk] at hF hce hp
  have hv := hF.val hp he (costsL_length g l bs) hk
  rw [← hce] at hv
  obtain ⟨_, p2, p3, p4⟩ := valM_prob (C := costsL g l bs) (sk := skipL l) (cols := cols) (by rw [hv])
  rw [costsL_length] at p2 p3 p4
  rw [hk] at p3
  have hok : ∀ i, i < l.length → OkRow g l bs cols i := fun i hi => (okRow_errV (hN i hi) hi).2 (p3 i hi)
  refine ⟨by rw [hce, rowI_length], f1, hN, hok, ?_, fun c hc => ?_⟩
  · rw [hv] at p4
    rw [sumR_congr fun i hi => valRow_costV hi (hok i hi)]
    exact p4.symm
  · rw [sumR_congr fun i hi => valRow_costV hi (hc i hi)]
    exact (hF.best hp fun i hi => (okRow_errV (hN i hi) hi).1 (hc i hi)).1
end

end Go.Proofs.Ytnpdkpbecmpdbaa
