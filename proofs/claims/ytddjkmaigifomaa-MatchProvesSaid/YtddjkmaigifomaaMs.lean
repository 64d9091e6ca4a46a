/-
  match: the law MatchProves walked.
-/
import Derived.Test.YtddjkmaigifomaaMr
import Derived.Test.YtddjkmaigifomaaMq
import Derived.Test.YtddjkmaigifomaaCx5
import Derived.Deep.QuietTactic
import Derived.BigQuiet
set_option linter.unusedVariables false
set_option linter.unusedSimpArgs false
namespace Go.Proofs.Ytddjkmaigifomaa
open Go.RowKit

theorem boolIs_dec {P : Prop} {pB : Bool} (hp : pB = true ↔ P) {w : World} {f : FuncId} {args : Array Value} (h : Calls Try.prog f args w (BoolIs P w)) :
    Calls Try.prog f args w fun e w' => e = .returned (.bool pB) ∧ Mod NoBlock w w' :=
  h.mono fun e w' ⟨r, h1, h2, h3⟩ => by
    have : r = pB := by cases r <;> cases pB <;> simp_all
    exact ⟨by rw [h1, this], h3⟩

set_option maxRecDepth 100000 in
set_option maxHeartbeats 6400000 in
theorem matchProves_fin (y : PrIn) {w : World} (hy : y.In w) (_ : World) :
    Calls Try.prog 6 #[y.val] w fun e w' => e = .returned (.bool true) ∧ Mod NoBlock w w' := by
  obtain ⟨a, c, C, b, d, sk, aC, cC, cols, t, aU, cU, U, aV, cV, V⟩ := y
  obtain ⟨hC, hS, hc, hU, hV⟩ := hy
  dsimp only at hC hS hc hU hV
  show Calls Try.prog 6 #[.agg #[.slice a C.length c, .slice b sk.length d, .slice aC cols.length cC, .int .i64 t, .slice aU U.length cU, .slice aV V.length cV]] w _
  have m0 := (Mod.refl NoBlock w).alloc (.cells #[.slice a C.length c, .slice b sk.length d, .slice aC cols.length cC, .int .i64 t, .slice aU U.length cU, .slice aV V.length cV] 38)
  have hb0 := rowIs_new w #[.slice a C.length c, .slice b sk.length d, .slice aC cols.length cC, .int .i64 t, .slice aU U.length cU, .slice aV V.length cV] 38
  have HC := Lib.hid (hC.frame m0)
  have HS := Lib.hid (hS.frame m0)
  have Hc := Lib.hid (hc.frame m0)
  have HU := Lib.hid (hU.frame m0)
  have HV := Lib.hid (hV.frame m0)
  have M0 := Lib.hid m0
  have B0 := Lib.hid hb0
  clear hC hS hc hU hV m0 hb0
  go_enter Try.func6, Try.ntmps6
  go_upto_region 1 with fail
  generalize w.alloc (.cells #[.slice a C.length c, .slice b sk.length d, .slice aC cols.length cC, .int .i64 t, .slice aU U.length cU, .slice aV V.length cV] 38) = w1 at HC HS Hc HU HV M0 B0 ⊢
  generalize w.heap.size = gm at B0 ⊢
  have b0 : w1.cell? ⟨gm, 0, none⟩ = some (.slice a C.length c) := B0.out.cell (i := 0) (by show 0 < 6; omega)
  have b1 : w1.cell? ⟨gm, 1, none⟩ = some (.slice b sk.length d) := B0.out.cell (i := 1) (by show 1 < 6; omega)
  by_cases hl : Lit C sk
  case neg =>
    have Hl := Lib.hid (light_no (c := c) (d := d) HC.out HS.out hl)
    clear hl
    go_wp2_with fail
    refine Hl.out.mono ?_; rintro e w1 ⟨rfl, rfl⟩
    go_wp2_with fail
    refine (awakeM_any _).mono ?_; rintro e w9 ⟨rfl, m⟩
    have M := Lib.hid (M0.out.trans m)
    clear m
    go_wp2_with fail
    go_ret
    exact ⟨rfl, M.out⟩
  have Hl := Lib.hid (light_yes (c := c) (d := d) HC.out HS.out hl)
  clear hl
  obtain ⟨pB, hpB⟩ : ∃ pB : Bool, pB = true ↔ ProOk C sk cols t U V := by
    by_cases h : ProOk C sk cols t U V
    · exact ⟨true, by simp [h]⟩
    · exact ⟨false, by simp [h]⟩
  have Hp := Lib.hid fun (x : KeptT w1) => boolIs_dec hpB (proves_any (c := c) (d := d) (cC := cC) (cU := cU) (cV := cV) (t := t) (HC.out.frame x.mod) (HS.out.frame x.mod) (Hc.out.frame x.mod) (HU.out.frame x.mod) (HV.out.frame x.mod))
  have Hr := Lib.hid fun (x : KeptT w1) => boolIs_dec hpB (refProves_any (c := c) (d := d) (cC := cC) (cU := cU) (cV := cV) (t := t) (HC.out.frame x.mod) (HS.out.frame x.mod) (Hc.out.frame x.mod) (HU.out.frame x.mod) (HV.out.frame x.mod))
  clear hpB
  go_upto_region 3 with (go_at_call 10; refine Hl.out.mono ?_; rintro e w1 ⟨rfl, rfl⟩)
  clear b0 b1
  have D0 : ∀ x : KeptT w1, x.w.cell? ⟨gm, 0, none⟩ = some (.slice a C.length c) := fun x => x.mod.cell (B0.out.cell (i := 0) (by show 0 < 6; omega)) id
  have D1 : ∀ x : KeptT w1, x.w.cell? ⟨gm, 1, none⟩ = some (.slice b sk.length d) := fun x => x.mod.cell (B0.out.cell (i := 1) (by show 1 < 6; omega)) id
  have D2 : ∀ x : KeptT w1, x.w.cell? ⟨gm, 2, none⟩ = some (.slice aC cols.length cC) := fun x => x.mod.cell (B0.out.cell (i := 2) (by show 2 < 6; omega)) id
  have D3 : ∀ x : KeptT w1, x.w.cell? ⟨gm, 3, none⟩ = some (.int .i64 t) := fun x => x.mod.cell (B0.out.cell (i := 3) (by show 3 < 6; omega)) id
  have D4 : ∀ x : KeptT w1, x.w.cell? ⟨gm, 4, none⟩ = some (.slice aU U.length cU) := fun x => x.mod.cell (B0.out.cell (i := 4) (by show 4 < 6; omega)) id
  have D5 : ∀ x : KeptT w1, x.w.cell? ⟨gm, 5, none⟩ = some (.slice aV V.length cV) := fun x => x.mod.cell (B0.out.cell (i := 5) (by show 5 < 6; omega)) id
  refine wp_region_kept (by kernel_rfl) (by kernel_rfl) ?_
  repeat (go_big_quiet_step ((first
    | (go_at_call 20; exact calls_kept _ (Hp.out _))
    | (go_at_call 17; exact calls_kept _ (Hr.out _))
    | (go_at_call 13; exact calls_kept _ (awakeM_any _)))))
  refine wpQuiet_nil ?_
  rintro w8 ⟨x8, rfl⟩
  have M := Lib.hid (M0.out.trans x8.mod)
  clear D0 D1 D2 D3 D4 D5
  go_wp2_with fail
  go_ret
  exact ⟨rfl, M.out⟩

end Go.Proofs.Ytddjkmaigifomaa
