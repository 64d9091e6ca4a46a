/-
  camera: the reference's Start of a carry.
-/
import Derived.Test.YtnpdkpbecmpdbaaCg
import Derived.Deep.RegionLaw
set_option linter.unusedVariables false
set_option linter.unusedSimpArgs false
namespace Go.Proofs.Ytnpdkpbecmpdbaa
open Go.RowKit

theorem elemInts : Elem1 Try.prog 31 3 8 := Elem1.mk Try.underlying31 infoIntsC rfl

theorem Own.away {w : World} {B e b c : Nat} {a : Option Addr} {vs : List Value} (h : Own w B e a c vs) (hb : b < B) : some b ≠ blockOf a := fun e => by
  have := (h.lt e.symm).1
  omega

/-- The two slices of a carry of the reference, in rows of their own. -/
def Two (w : World) (B : Nat) (a1 : Option Addr) (c1 : Nat) (a2 : Option Addr) (c2 : Nat) (rs os : List Int) : Prop :=
  Own w B 3 a1 c1 (rs.map (Value.int .i64)) ∧ Own w B 3 a2 c2 (os.map (Value.int .i64)) ∧ ∀ b, blockOf a1 = some b → blockOf a2 ≠ some b
theorem Two.nil (w : World) (B : Nat) : Two w B none 0 none 0 [] [] := ⟨Own.nil _ _ _, Own.nil _ _ _, fun b h => by simp [blockOf] at h⟩
theorem Two.mono {w : World} {B B' : Nat} {a1 a2 : Option Addr} {c1 c2 : Nat} {rs os : List Int} (h : Two w B a1 c1 a2 c2 rs os) (hB : B' ≤ B) : Two w B' a1 c1 a2 c2 rs os := ⟨h.1.mono hB, h.2.1.mono hB, h.2.2⟩
theorem Two.mod {w w' : World} {B : Nat} {a1 a2 : Option Addr} {c1 c2 : Nat} {rs os : List Int} {D : Nat → Prop} (h : Two w B a1 c1 a2 c2 rs os) (m : Mod D w w') (hd : ∀ b, B ≤ b → b < w.heap.size → ¬ D b) : Two w' B a1 c1 a2 c2 rs os :=
  ⟨h.1.mod m (fun k hk => hd k (h.1.lt hk).1 (h.1.lt hk).2), h.2.1.mod m (fun k hk => hd k (h.2.1.lt hk).1 (h.2.1.lt hk).2), h.2.2⟩

theorem take_map_ix {l : List Int} {k : Nat} (h : k < l.length) : (l.take k).map (Value.int .i64) ++ [Value.int .i64 (ix l k)] = (l.take (k + 1)).map (Value.int .i64) := by rw [take_ix h]; simp
theorem repl_map (k : Nat) : (List.replicate k (0 : Int)).map (Value.int .i64) ++ [Value.int .i64 0] = (List.replicate (k + 1) (0 : Int)).map (Value.int .i64) := by rw [List.replicate_succ']; simp

end Go.Proofs.Ytnpdkpbecmpdbaa
