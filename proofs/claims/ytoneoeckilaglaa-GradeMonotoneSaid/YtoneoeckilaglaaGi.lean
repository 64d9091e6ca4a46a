/-
  The grade laws' own fixed example (sample, awake).
-/
import Derived.Test.YtoneoeckilaglaaGg
import Derived.ArgAppend
set_option linter.unusedVariables false
set_option linter.unusedSimpArgs false
namespace Go.Proofs.Ytoneoeckilaglaa
open Go.RowKit

def GAll : Nat → Prop := fun _ => True
def exG : List (Int × Int) := [(980, 20000), (900, 5000), (0, -3000)]
def exC : Array Value := #[.int .i64 980, .int .i64 20000, .int .i64 900, .int .i64 5000, .int .i64 0, .int .i64 (-3000)]

theorem sample_any (w : World) : Calls Try.prog 21 #[] w fun e w' => e = .returned (.slice (some ⟨w.heap.size, 0, none⟩) 3 3) ∧ w' = w.alloc (.cells exC 35) := by
  go_enter Try.func21, Try.ntmps21
  go_wp2
  go_ret
  exact ⟨rfl, rfl⟩

theorem exG_at (w : World) : Grs GAll (w.alloc (.cells exC 35)) (some ⟨w.heap.size, 0, none⟩) exG :=
  ⟨by simp [maxLen, exG], fun _ => ⟨w.heap.size, 0, rfl, trivial, fun k hk => by
    have hk2 : k < 3 := by simpa [exG] using hk
    rcases (by omega : k = 0 ∨ k = 1 ∨ k = 2) with rfl | rfl | rfl
    · exact ⟨cell_new w _ _ 0 _ rfl, cell_new w _ _ 1 _ rfl⟩
    · exact ⟨cell_new w _ _ 2 _ rfl, cell_new w _ _ 3 _ rfl⟩
    · exact ⟨cell_new w _ _ 4 _ rfl, cell_new w _ _ 5 _ rfl⟩⟩⟩

theorem wpList_append_guarded {P : Program} (w : World) {ops : Array Oper} {rest : List Oper} {o : Oper} {a : Act} {Q : Exit → Act → World → Prop}
    (hw : Region.wanted o (yielded ops a.tmps) = true) (s x : Operand) (t : TypeId) (hop : o.op = Op.call { callee := Callee.builtin Builtin.append, args := #[s, x], argTypes := #[t, t] })
    (e : TypeId) (i : TypeInfo) (z : Value) (size bytes : Nat) (h1 : P.underlying t = some (.slice e)) (h2 : P.info? e = some i) (h3 : i.zero = some z) (h4 : i.size = size) (h5 : i.bytes = bytes) (h6 : z.cells.size = size) (h7 : 0 < size)
    (b : Addr) (n cap : Nat) (olds : List Value) (hs : a.eval s = .slice (some b) n cap) (hlo : olds.length = n * size) (holds : ∀ j u, olds[j]? = some u → w.cell? (b.add j) = some u)
    (ad : Addr) (m c : Nat) (news : List Value) (hx : a.eval x = .slice (some ad) m c) (hn : news.length = m * size) (hc : ∀ j u, news[j]? = some u → w.cell? (ad.add j) = some u) (h1c : ∀ u ∈ news, u.oneCell' = true)
    (hfull : cap < n + m) (b1 : n + m ≤ maxLen) (b2 : (n + m) * bytes ≤ 140737488355328)
    (hK : ∀ v' w', w'.ownsRow w.heap.size e size v' (n + m) (olds ++ news) → w.grownBy w' none → wpList P ops Q rest (a.put o.dst v') w') :
    wpList P ops Q (o :: rest) a w := by
  refine wpList_step fun K hK' => ?_
  rw [if_pos hw]
  obtain ⟨v', w', hrun, r1, r2⟩ := run_append_arg_grows (P := P) w t o.type e i z size bytes h1 h2 h3 h4 h5 h6 h7 b n cap olds hlo holds ad m c news hn hc hfull b1 b2
  unfold Oper.wp
  simp [execOp, hop, resolve, invoke, builtin, hs, hx, hrun, Result.andThen]
  exact hK' _ _ (hK v' w' r1 r2)

theorem add_plain0 (b o k : Nat) : (⟨b, o, none⟩ : Addr).add k = ⟨b, o + k, none⟩ := by
  unfold Addr.add; split <;> simp_all
theorem Grs.of_own {w : World} {B e : Nat} {v : Value} {l : List (Int × Int)} {n : Nat} {vs : List Value} (h : w.ownsRow B e 2 v n vs) (hl : l.length = n) (hm : n ≤ maxLen) (h0 : 0 < n) (hv : ∀ k, k < n → vs[k * 2]? = some (.int .i64 (gx l k).1) ∧ vs[k * 2 + 1]? = some (.int .i64 (gx l k).2)) :
    ∃ a c, v = .slice a l.length c ∧ Grs GAll w a l := by
  obtain ⟨g, cap, rfl⟩ : ∃ g cap, v = .slice (some ⟨g, 0, none⟩) n cap := by
    rcases h.2 with ⟨_, h1⟩ | ⟨g, cap, _, h1, _⟩
    · omega
    · exact ⟨g, cap, h1⟩
  subst hl
  refine ⟨_, cap, rfl, hm, fun _ => ⟨g, 0, rfl, trivial, fun k hk => ?_⟩⟩
  obtain ⟨h1, h2⟩ := hv k hk
  have g1 := h.cells rfl _ _ h1
  have g2 := h.cells rfl _ _ h2
  rw [add_plain0] at g1 g2
  exact ⟨g1, by rw [Nat.add_assoc]; exact g2⟩

theorem exC_cells (w : World) : ∀ (j : Nat) (u : Value), exC.toList[j]? = some u → (w.alloc (.cells exC 35)).cell? ((⟨w.heap.size, 0, none⟩ : Addr).add j) = some u := by
  intro j u h
  rw [add_plain0]
  exact cell_new w _ _ j _ (by simpa using h)
theorem zz_cells (w : World) (t : TypeId) : ∀ (j : Nat) (u : Value), [Value.int .i64 0, .int .i64 0][j]? = some u → (w.alloc (.cells #[.int .i64 0, .int .i64 0] t)).cell? ((⟨w.heap.size, 0, none⟩ : Addr).add j) = some u := by
  intro j u h
  rw [add_plain0]
  exact cell_new w #[.int .i64 0, .int .i64 0] _ j _ (by simpa using h)

set_option maxRecDepth 100000 in
set_option maxHeartbeats 3200000 in
theorem awakeG_any (w : World) : Calls Try.prog 14 #[] w fun e w' => e = .returned (.bool true) ∧ Mod NoBlock w w' := by
  go_enter Try.func14, Try.ntmps14
  go_wp2_with fail
  refine (sample_any _).mono ?_; rintro e w1 ⟨rfl, rfl⟩
  have M := Lib.hid ((Mod.refl NoBlock w).alloc (.cells exC 35))
  have HX := Lib.hid (exG_at w)
  generalize w.alloc (.cells exC 35) = w0 at M HX ⊢
  generalize w.heap.size = g at HX ⊢
  go_wp2_with fail
  have HM := Lib.hid (Ints.pair GAll w0 21 979 3 trivial)
  have M := Lib.hid (M.out.alloc (.cells #[.int .i64 21, .int .i64 979] 3))
  have HX := Lib.hid (HX.out.frame ((Mod.refl NoBlock w0).alloc (.cells #[.int .i64 21, .int .i64 979] 3)))
  generalize w0.alloc (.cells #[.int .i64 21, .int .i64 979] 3) = w1 at M HX HM ⊢
  generalize w0.heap.size = g1 at HM ⊢
  go_wp2_with fail
  refine (gradeOf_any _ 3 exG _ 2 [21, 979] 1 _ _ _ HX.out HM.out).mono ?_
  rw [show ofG exG [21, 979] 1 = (1, 0) by decide]
  rintro e w2 ⟨rfl, m⟩
  have M := Lib.hid (M.out.trans m); have HX := Lib.hid (HX.out.frame m); have HM := Lib.hid (HM.out.frame m); clear m
  go_wp2_with fail
  refine (gradePrice_any _ 3 exG 0 25 _ _ HX.out).mono ?_
  rw [show prcG exG 0 25 = (1, 0) by decide]
  rintro e w3 ⟨rfl, m⟩
  have M := Lib.hid (M.out.trans m); have HX := Lib.hid (HX.out.frame m); have HM := Lib.hid (HM.out.frame m); clear m
  go_wp2_with fail
  refine (gradePrice_any _ 3 exG 2 500 _ _ HX.out).mono ?_
  rw [show prcG exG 2 500 = (-2, 0) by decide]
  rintro e w4 ⟨rfl, m⟩
  have M := Lib.hid (M.out.trans m); have HX := Lib.hid (HX.out.frame m); have HM := Lib.hid (HM.out.frame m); clear m
  go_wp2_with fail
  refine (gradeWorth_any _ 3 exG _ 2 [21, 979] 1 _ _ _ HX.out HM.out).mono ?_
  rw [show worG exG [21, 979] 1 = (5, 0) by decide]
  rintro e w5 ⟨rfl, m⟩
  have M := Lib.hid (M.out.trans m); have HX := Lib.hid (HX.out.frame m); clear m
  go_wp2_with fail
  have HM := Lib.hid (Ints.pair GAll w5 101 899 3 trivial)
  refine (gradeOf_any _ 3 (exG.take 2) _ 2 [101, 899] 1 _ _ _ ((HX.out.take 2).frame ((Mod.refl NoBlock w5).alloc _)) HM.out).mono ?_
  rw [show ofG (exG.take 2) [101, 899] 1 = (0, 25) by decide]
  rintro e w6 ⟨rfl, m⟩
  have m := ((Mod.refl NoBlock w5).alloc _).trans m
  have M := Lib.hid (M.out.trans m); have HX := Lib.hid (HX.out.frame m); clear m
  go_wp2_with fail
  refine (gradeCheck_any _ 3 exG _ _ HX.out).mono ?_
  rw [show chkG exG = 0 by decide]
  rintro e w7 ⟨rfl, m⟩
  have M := Lib.hid (M.out.trans m); have HX := Lib.hid (HX.out.frame m); clear m
  go_wp2_with fail
  refine (sample_any _).mono ?_; rintro e w8 ⟨rfl, rfl⟩
  have M := Lib.hid (M.out.alloc (.cells exC 35))
  have HX := Lib.hid (HX.out.frame ((Mod.refl NoBlock w7).alloc (.cells exC 35)))
  have HS := Lib.hid (exC_cells w7)
  generalize w7.alloc (.cells exC 35) = w8 at M HX HS ⊢
  generalize w7.heap.size = g8 at HS ⊢
  have HS := Lib.hid (fun j u h => (Mod.refl NoBlock w8 |>.alloc (.cells #[.int .i64 0, .int .i64 0] 35)).cell (HS.out j u h) id)
  have HZ := Lib.hid (zz_cells w8 35)
  have M := Lib.hid (M.out.alloc (.cells #[.int .i64 0, .int .i64 0] 35))
  have HX := Lib.hid (HX.out.frame ((Mod.refl NoBlock w8).alloc (.cells #[.int .i64 0, .int .i64 0] 35)))
  go_wp2_with (at_builtin; go_loud (refine wpList_append_guarded _ (by rfl) _ _ 22 rfl 35 _ _ 2 16 Try.underlying22 rfl rfl rfl rfl rfl (by decide) ⟨g8, 0, none⟩ 3 3 exC.toList rfl rfl HS.out ⟨w8.heap.size, 0, none⟩ 1 1 [.int .i64 0, .int .i64 0] rfl rfl HZ.out (by intro u hu; simp at hu; rw [hu]; rfl) (by decide) (by decide) (by decide) ?_; intro v' w9 hown hgr))
  obtain ⟨ar, cr, rfl, hr⟩ := Grs.of_own (l := exG ++ [(0, 0)]) hown (by decide) (by decide) (by decide) (by
    intro k hk
    rcases (by omega : k = 0 ∨ k = 1 ∨ k = 2 ∨ k = 3) with rfl | rfl | rfl | rfl <;> exact ⟨rfl, rfl⟩)
  have m := (Mod.refl NoBlock _).grown hgr (by intro k h; cases h)
  have M := Lib.hid (M.out.trans m); have HX := Lib.hid (HX.out.frame m); have HR := Lib.hid hr
  clear m hgr hown hr
  go_wp2_with fail
  refine (gradeCheck_any ar cr (exG ++ [(0, 0)]) _ _ HR.out).mono ?_
  rw [show chkG (exG ++ [(0, 0)]) = 9 by decide]
  rintro e w10 ⟨rfl, m⟩
  have M := Lib.hid (M.out.trans m); have HX := Lib.hid (HX.out.frame m); clear m
  go_wp2_with fail
  refine (gradeBetter_any _ 3 exG 0 2 _ _ HX.out).mono ?_
  rw [show betterB exG 0 2 = true by decide]
  rintro e w11 ⟨rfl, m⟩
  have M := Lib.hid (M.out.trans m); have HX := Lib.hid (HX.out.frame m); clear m
  go_wp2_with fail
  refine (gradeBetter_any _ 3 exG 2 1 _ _ HX.out).mono ?_
  rw [show betterB exG 2 1 = false by decide]
  rintro e w12 ⟨rfl, m⟩
  have M := Lib.hid (M.out.trans m); have HX := Lib.hid (HX.out.frame m); clear m
  go_wp2_with fail
  refine (gradeBetter_any _ 3 exG 0 3 _ _ HX.out).mono ?_
  rw [show betterB exG 0 3 = false by decide]
  rintro e w13 ⟨rfl, m⟩
  have M := Lib.hid (M.out.trans m); clear m
  go_wp2
  go_ret
  exact ⟨rfl, M.out⟩

end Go.Proofs.Ytoneoeckilaglaa
