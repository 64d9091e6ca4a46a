/-
  Walks: empty, copied; the belt's own small functions.
-/
import Derived.Test.YtinoekldcchfhaaWb
import Derived.Test.YtinoekldcchfhaaOwn
set_option linter.unusedVariables false
set_option linter.unusedSimpArgs false
namespace Go.Proofs.Ytinoekldcchfhaa
open Go.RowKit

theorem infoInt : (Try.prog.info? 3).map (fun i => (i.zero, i.size, i.bytes)) = some (some (.int .i64 0), 1, 8) := by kernel_rfl
theorem infoMix : (Try.prog.info? 35).map (fun i => (i.zero, i.size, i.bytes)) = some (some (.slice Option.none 0 0), 1, 24) := by kernel_rfl
theorem elemMix : Elem1 Try.prog 35 3 8 := Elem1.mk Try.underlying35 infoInt rfl
theorem elemMixes : Elem1 Try.prog 26 35 24 := Elem1.mk Try.underlying26 infoMix rfl

theorem madeInts (w : World) (m : Nat) (t : TypeId) : (w.alloc (.cells (madeCells #[.int .i64 0] m) t)).rowIs w.heap.size t m (fun _ => .int .i64 0) := World.rowIs_made w _ m t

set_option maxHeartbeats 400000 in
theorem emptyMix_any (m : Nat) (w : World) (hm : m ≤ 1000) :
    Calls Try.prog 26 #[.int .i64 m] w fun e w' => ∃ a, e = .returned (.slice a m m) ∧ Ints (fun b => w.heap.size ≤ b) w' a (List.replicate m 0) ∧ Mod NoBlock w w' := by
  have hmk := run_make_row' (P := Try.prog) 35 3 (.int .i64 0) 8 Try.underlying35 infoInt rfl .i64 .i64 m (by omega) (by omega)
  go_enter Try.func26, Try.ntmps26
  go_wp2
  go_ret
  refine ⟨_, rfl, Ints.of_row (madeInts w m _) (by simp) (by simp [maxLen]; omega) (fun k hk => ?_) (Nat.le_refl _), (Mod.refl _ _).alloc _⟩
  rw [ix_replicate (by simpa using hk)]

set_option maxHeartbeats 400000 in
theorem copied_any (a : Option Addr) (c : Nat) (xs : List Int) (D : Nat → Prop) (w : World) (hx : Ints D w a xs) (hl : xs.length ≤ 1000) :
    Calls Try.prog 29 #[.slice a xs.length c] w fun e w' => ∃ a' c', e = .returned (.slice a' xs.length c') ∧ Ints (fun b => w.heap.size ≤ b) w' a' xs ∧ Mod NoBlock w w' := by
  have H := Lib.hid hx
  clear hx
  go_enter Try.func29, Try.ntmps29
  go_wp2_with (at_builtin; refine wpList_append1 (vs := []) rfl (.tmp 4) (.tmp 5) _ rfl elemMix 0 xs.length xs.length c (xs.map (Value.int .i64)) rfl rfl rfl (by simp) (by omega) (Own.nil w w.heap.size _) (Src.ints H.out) (by simp [Value.oneCell']) (by simp only [maxLen]; omega) (by omega) (Nat.le_refl _) ?_; intro a' c' w1 hown hg hat)
  go_ret
  refine ⟨a', c', rfl, ?_, (Own.nil w w.heap.size 0).grown (Mod.refl _ _) (Nat.le_refl _) hg⟩
  exact Own.ints (by simpa using hown) (fun b hb _ => hb) (by simp [maxLen]; omega)

theorem copied_n (a : Option Addr) (c n : Nat) (xs : List Int) (D : Nat → Prop) (w : World) (hn : xs.length = n) (hx : Ints D w a xs) (hl : n ≤ 1000) :
    Calls Try.prog 29 #[.slice a n c] w fun e w' => ∃ a' c', e = .returned (.slice a' n c') ∧ Ints (fun b => w.heap.size ≤ b) w' a' xs ∧ Mod NoBlock w w' := by
  subst hn
  exact copied_any a c xs D w hx hl

end Go.Proofs.Ytinoekldcchfhaa
