/-
  contract: the sum of an assignment, walked.
-/
import Derived.Test.YtnpdkpbecmpdbaaKf
import Derived.Test.YtnpdkpbecmpdbaaKd
import Derived.Deep.QuietTactic
import Derived.BigQuiet
set_option linter.unusedVariables false
set_option linter.unusedSimpArgs false
namespace Go.Proofs.Ytnpdkpbecmpdbaa
open Go.RowKit

/-- Row i has a column that fits it and that no row before it has, or none. -/
def OkRow (g : List (Int × Int)) (l : List Ctr) (bs : List Bal) (cols : List Int) (i : Nat) : Prop :=
  ix cols i = -1 ∨ (0 ≤ ix cols i ∧ ix cols i < bs.length ∧ fitB (cx l i) g (bx bs (ix cols i).toNat) = true ∧ ∀ j, j < i → ix cols j ≠ ix cols i)
def valRow (g : List (Int × Int)) (l : List Ctr) (bs : List Bal) (cols : List Int) (i : Nat) : Int :=
  if ix cols i = -1 then missC (cx l i) 0 else costB g (cx l i) (bx bs (ix cols i).toNat)
theorem valRow_bd {g : List (Int × Int)} {l : List Ctr} {bs : List Bal} {cols : List Int} {i : Nat} (hN : NumC (cx l i)) (h : OkRow g l bs cols i) : 0 ≤ valRow g l bs cols i ∧ valRow g l bs cols i ≤ 1073741824 := by
  unfold valRow
  rcases h with h | ⟨h0, _, hf, _⟩
  · rw [if_pos h]; exact missC_bd hN (by omega)
  · rw [if_neg (by omega)]
    unfold costB
    rw [hf]
    exact missC_bd hN (tot_fit hf).2.1
theorem sumR_bd {n : Nat} {f : Nat → Int} {B : Int} (h : ∀ i, i < n → 0 ≤ f i ∧ f i ≤ B) : 0 ≤ sumR n f ∧ sumR n f ≤ n * B := by
  induction n with
  | zero => simp [sumR]
  | succ n ih =>
    have h1 := ih fun i hi => h i (by omega)
    have h2 := h n (by omega)
    have e : ((n + 1 : Nat) : Int) * B = n * B + B := by rw [Int.natCast_add, Int.add_mul]; omega
    unfold sumR
    rw [e]
    omega

def SumRes (g : List (Int × Int)) (l : List Ctr) (bs : List Bal) (cols : List Int) (w : World) (e : Ending) (w' : World) : Prop :=
  ∃ (r : Bool) (t : Int), e = .returned (.tuple #[.int .i64 t, .bool r]) ∧ Mod NoBlock w w' ∧ (r = true → (∀ i, i < l.length → OkRow g l bs cols i) ∧ t = sumR l.length (valRow g l bs cols)) ∧ ((∀ i, i < l.length → OkRow g l bs cols i) → r = true)
theorem SumRes.no {g : List (Int × Int)} {l : List Ctr} {bs : List Bal} {cols : List Int} {w w' : World} {q : Nat} (hq : q < l.length) (h : ¬ OkRow g l bs cols q) (m : Mod NoBlock w w') : SumRes g l bs cols w (.returned (.tuple #[.int .i64 0, .bool false])) w' :=
  ⟨false, 0, rfl, m, (fun h => by cases h), fun hh => absurd (hh q hq) h⟩

end Go.Proofs.Ytnpdkpbecmpdbaa
