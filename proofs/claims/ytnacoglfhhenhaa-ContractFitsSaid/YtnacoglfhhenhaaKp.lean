/-
  contract: the law ContractFits walked.
-/
import Derived.Test.YtnacoglfhhenhaaKm
set_option linter.unusedVariables false
set_option linter.unusedSimpArgs false
namespace Go.Proofs.Ytnacoglfhhenhaa
open Go.RowKit

theorem bals_one {D : Nat → Prop} {w : World} {b : Nat} {y : Bal} {a' : Option Addr} {c' : Nat} (hD : ∀ k, D k) (h : w.rowIs b 33 4 (fun i => (#[.int .i64 y.id, .int .i64 y.mat, .int .i64 y.tm, .slice a' y.mix.length c'] : Array Value).getD i undef)) (hm : Ints D w a' y.mix) : Bals D w (some ⟨b, 0, none⟩) [y] :=
  ⟨by simp [maxLen], fun _ => ⟨b, 0, rfl, hD b, fun k hk => by
    obtain rfl : k = 0 := by simp at hk; omega
    exact ⟨a', c', h.cell (i := 0) (by decide), h.cell (i := 1) (by decide), h.cell (i := 2) (by decide), h.cell (i := 3) (by decide), hm⟩⟩⟩

set_option maxRecDepth 100000 in
set_option maxHeartbeats 3200000 in
theorem contractFits_fin (x : Ctr) (_ : I64 x.i ∧ I64 x.m ∧ I64 x.g ∧ I64 x.w ∧ I64 x.s ∧ I64 x.p ∧ I64 x.q) (aG : Option Addr) (cG : Nat) (g : List (Int × Int)) {w : World} (hg : Grs Any w aG g) (_ : g.length ≤ cG) (y : Bal) (a' : Option Addr) (c' : Nat) (hm : Ints Any w a' y.mix) (_ : World) :
    Calls Try.prog 4 #[.agg #[.int .i64 x.i, .int .i64 x.m, .int .i64 x.g, .int .i64 x.w, .int .i64 x.s, .int .i64 x.p, .int .i64 x.q], .slice aG g.length cG, .agg #[.int .i64 y.id, .int .i64 y.mat, .int .i64 y.tm, .slice a' y.mix.length c']] w fun e w' => e = .returned (.bool true) ∧ Mod NoBlock w w' := by
  have m0 := ((Mod.refl NoBlock w).alloc (.cells #[.int .i64 x.i, .int .i64 x.m, .int .i64 x.g, .int .i64 x.w, .int .i64 x.s, .int .i64 x.p, .int .i64 x.q] 28)).alloc (.cells #[.int .i64 y.id, .int .i64 y.mat, .int .i64 y.tm, .slice a' y.mix.length c'] 33)
  have B1 := Lib.hid ((rowIs_new w #[.int .i64 x.i, .int .i64 x.m, .int .i64 x.g, .int .i64 x.w, .int .i64 x.s, .int .i64 x.p, .int .i64 x.q] 28).alloc (.cells #[.int .i64 y.id, .int .i64 y.mat, .int .i64 y.tm, .slice a' y.mix.length c'] 33))
  have b2 := rowIs_new (w.alloc (.cells #[.int .i64 x.i, .int .i64 x.m, .int .i64 x.g, .int .i64 x.w, .int .i64 x.s, .int .i64 x.p, .int .i64 x.q] 28)) #[.int .i64 y.id, .int .i64 y.mat, .int .i64 y.tm, .slice a' y.mix.length c'] 33
  rw [show (w.alloc (.cells #[.int .i64 x.i, .int .i64 x.m, .int .i64 x.g, .int .i64 x.w, .int .i64 x.s, .int .i64 x.p, .int .i64 x.q] 28)).heap.size = w.heap.size + 1 by simp] at b2
  have B2 := Lib.hid b2
  have HG := Lib.hid (hg.frame m0)
  have HM := Lib.hid (hm.frame m0)
  have M0 := Lib.hid m0
  have lg : g.length ≤ maxLen := hg.1
  clear m0 b2 hg hm
  go_enter Try.func4, Try.ntmps4
  go_upto_region 1 with fail
  generalize (w.alloc (.cells #[.int .i64 x.i, .int .i64 x.m, .int .i64 x.g, .int .i64 x.w, .int .i64 x.s, .int .i64 x.p, .int .i64 x.q] 28)).alloc (.cells #[.int .i64 y.id, .int .i64 y.mat, .int .i64 y.tm, .slice a' y.mix.length c'] 33) = w1 at B1 B2 HG HM M0 ⊢
  generalize w.heap.size = g1 at B1 B2 ⊢
  have k0 : w1.cell? ⟨g1 + 1, 0, none⟩ = some (.int .i64 y.id) := B2.out.cell (i := 0) (by show 0 < 4; omega)
  have k1 : w1.cell? ⟨g1 + 1, 1, none⟩ = some (.int .i64 y.mat) := B2.out.cell (i := 1) (by show 1 < 4; omega)
  have k2 : w1.cell? ⟨g1 + 1, 2, none⟩ = some (.int .i64 y.tm) := B2.out.cell (i := 2) (by show 2 < 4; omega)
  have k3 : w1.cell? ⟨g1 + 1, 3, none⟩ = some (.slice a' y.mix.length c') := B2.out.cell (i := 3) (by show 3 < 4; omega)
  have m2 := (Mod.refl NoBlock w1).alloc (.cells #[.int .i64 y.id, .int .i64 y.mat, .int .i64 y.tm, .slice a' y.mix.length c'] 33)
  have Hf := Lib.hid (few_any (a := none) (c := 0) (aG := aG) (cG := cG) (aB := some ⟨w1.heap.size, 0, none⟩) (cB := 1) (l := []) (g := g) (bs := [y]) (by simp [maxLen]) lg (bals_one (D := Any) (fun _ => trivial) (rowIs_new w1 #[.int .i64 y.id, .int .i64 y.mat, .int .i64 y.tm, .slice a' y.mix.length c'] 33) (HM.out.frame m2)))
  have M2 := Lib.hid m2
  clear m2 lg
  go_wp2_with fail
  refine Hf.out.mono ?_; rintro e w2 ⟨r, rfl, -, m⟩
  have M3 := Lib.hid (M2.out.trans m)
  clear m k0 k1 k2 k3 Hf M2
  cases r
  · go_wp2_with fail
    refine (awakeK_any _).mono ?_; rintro e w9 ⟨rfl, m⟩
    have M := Lib.hid ((M0.out.trans M3.out).trans m)
    clear m
    go_wp2_with fail
    go_ret
    exact ⟨rfl, M.out⟩
  have Hp := Lib.hid fun (z : KeptT w2) => fits_any x y (c := cG) (c2 := c') (HG.out.frame (M3.out.trans z.mod)) (HM.out.frame (M3.out.trans z.mod))
  have Hr := Lib.hid fun (z : KeptT w2) => refFits_any x y (c := cG) (c2 := c') (HG.out.frame (M3.out.trans z.mod)) (HM.out.frame (M3.out.trans z.mod))
  generalize fitB x g y = fb at Hp Hr
  have D0 : ∀ z : KeptT w2, z.w.cell? ⟨g1, 0, none⟩ = some (.int .i64 x.i) := fun z => (M3.out.trans z.mod).cell (B1.out.cell (i := 0) (by show 0 < 7; omega)) id
  have D1 : ∀ z : KeptT w2, z.w.cell? ⟨g1, 1, none⟩ = some (.int .i64 x.m) := fun z => (M3.out.trans z.mod).cell (B1.out.cell (i := 1) (by show 1 < 7; omega)) id
  have D2 : ∀ z : KeptT w2, z.w.cell? ⟨g1, 2, none⟩ = some (.int .i64 x.g) := fun z => (M3.out.trans z.mod).cell (B1.out.cell (i := 2) (by show 2 < 7; omega)) id
  have D3 : ∀ z : KeptT w2, z.w.cell? ⟨g1, 3, none⟩ = some (.int .i64 x.w) := fun z => (M3.out.trans z.mod).cell (B1.out.cell (i := 3) (by show 3 < 7; omega)) id
  have D4 : ∀ z : KeptT w2, z.w.cell? ⟨g1, 4, none⟩ = some (.int .i64 x.s) := fun z => (M3.out.trans z.mod).cell (B1.out.cell (i := 4) (by show 4 < 7; omega)) id
  have D5 : ∀ z : KeptT w2, z.w.cell? ⟨g1, 5, none⟩ = some (.int .i64 x.p) := fun z => (M3.out.trans z.mod).cell (B1.out.cell (i := 5) (by show 5 < 7; omega)) id
  have D6 : ∀ z : KeptT w2, z.w.cell? ⟨g1, 6, none⟩ = some (.int .i64 x.q) := fun z => (M3.out.trans z.mod).cell (B1.out.cell (i := 6) (by show 6 < 7; omega)) id
  have E0 : ∀ z : KeptT w2, z.w.cell? ⟨g1 + 1, 0, none⟩ = some (.int .i64 y.id) := fun z => (M3.out.trans z.mod).cell (B2.out.cell (i := 0) (by show 0 < 4; omega)) id
  have E1 : ∀ z : KeptT w2, z.w.cell? ⟨g1 + 1, 1, none⟩ = some (.int .i64 y.mat) := fun z => (M3.out.trans z.mod).cell (B2.out.cell (i := 1) (by show 1 < 4; omega)) id
  have E2 : ∀ z : KeptT w2, z.w.cell? ⟨g1 + 1, 2, none⟩ = some (.int .i64 y.tm) := fun z => (M3.out.trans z.mod).cell (B2.out.cell (i := 2) (by show 2 < 4; omega)) id
  have E3 : ∀ z : KeptT w2, z.w.cell? ⟨g1 + 1, 3, none⟩ = some (.slice a' y.mix.length c') := fun z => (M3.out.trans z.mod).cell (B2.out.cell (i := 3) (by show 3 < 4; omega)) id
  go_wp2_with fail
  refine wp_region_kept (by kernel_rfl) (by kernel_rfl) ?_
  repeat (go_big_quiet_step ((first
    | (go_at_call 14; exact calls_kept _ (Hp.out _))
    | (go_at_call 15; exact calls_kept _ (Hr.out _))
    | (go_at_call 10; exact calls_kept _ (awakeK_any _)))))
  refine wpQuiet_nil ?_
  rintro w8 ⟨x8, rfl⟩
  have M := Lib.hid ((M0.out.trans M3.out).trans x8.mod)
  clear D0 D1 D2 D3 D4 D5 D6 E0 E1 E2 E3
  go_wp2_with fail
  go_ret
  exact ⟨rfl, M.out⟩

end Go.Proofs.Ytnacoglfhhenhaa
