/-
  The laws' own fixed example (awake), and great.
-/
import Derived.Test.YtghciackhkimoaaVo
import Derived.Test.YtghciackhkimoaaVr
set_option linter.unusedVariables false
set_option linter.unusedSimpArgs false
namespace Go.Proofs.Ytghciackhkimoaa
open Go.RowKit

theorem great_any (a : Option Addr) (n c : Nat) (w : World) (hn : n ≤ maxLen) : Calls Try.prog 14 #[.slice a n c] w fun e w' => e = .returned (.bool (decide (40 < n))) ∧ w = w' := by
  unfold maxLen at hn
  go_enter Try.func14, Try.ntmps14
  go_wp2
  go_ret
  exact ⟨ret_bool (by first | rfl | (rw [decide_eq_decide]; omega)), rfl⟩

/-- The example's materials. -/
def exMats : List (ByteArray × Int) := [(⟨#[112, 97, 112, 101, 114]⟩, 100), (⟨#[103, 108, 97, 115, 115]⟩, 1000)]
theorem exMats_ok : checkM exMats = 0 := by
  have h1 : eqS (⟨#[103, 108, 97, 115, 115]⟩) (⟨#[112, 97, 112, 101, 114]⟩) = false := by
    cases h : eqS (⟨#[103, 108, 97, 115, 115]⟩) (⟨#[112, 97, 112, 101, 114]⟩)
    · rfl
    · exact absurd (eqS_true.1 h) (by decide)
  have h2 : dupTo exMats exMats.length = (hasB exMats 0 || (hasB exMats 1 || false)) := rfl
  have h3 : hasB exMats 0 = false := rfl
  have h4 : hasB exMats 1 = (eqS (⟨#[103, 108, 97, 115, 115]⟩) (⟨#[112, 97, 112, 101, 114]⟩) || false) := rfl
  rw [checkM_ok (by decide) (by decide) (by decide), h2, h3, h4, h1]
  rfl
theorem exMats_lit : litL exMats [150, 1] = (3, 0) := by
  unfold litL
  rw [if_pos exMats_ok, if_pos (by decide), if_pos (by decide)]
  decide

theorem mats2 (w : World) (x y : ByteArray) (d e : Int) (t : TypeId) : Mats (fun b => w.heap.size ≤ b) (w.alloc (.cells #[.string x, .int .i64 d, .string y, .int .i64 e] t)) (some ⟨w.heap.size, 0, Option.none⟩) [(x, d), (y, e)] :=
  ⟨by simp [maxLen], fun _ => ⟨w.heap.size, 0, rfl, Nat.le_refl _, fun k hk => by
    have hk2 : k < 2 := by simpa using hk
    rcases (by omega : k = 0 ∨ k = 1) with rfl | rfl
    · exact ⟨cell_new w _ _ 0 _ rfl, cell_new w _ _ 1 _ rfl⟩
    · exact ⟨cell_new w _ _ 2 _ rfl, cell_new w _ _ 3 _ rfl⟩⟩⟩

theorem Mixes.three {D : Nat → Prop} {w : World} {a a2 a3 : Option Addr} {xs ys zs : List Int} (h : Ints D w a xs) (h2 : Ints D w a2 ys) (h3 : Ints D w a3 zs) (c c2 c3 : Nat) (t : TypeId) :
    Mixes (fun b => D b ∨ b = w.heap.size) (w.alloc (.cells #[.slice a xs.length c, .slice a2 ys.length c2, .slice a3 zs.length c3] t)) (some ⟨w.heap.size, 0, Option.none⟩) [xs, ys, zs] :=
  ⟨by simp [maxLen], fun _ => ⟨w.heap.size, 0, rfl, .inr rfl, fun k hk => by
    have hk2 : k < 3 := by simpa using hk
    rcases (by omega : k = 0 ∨ k = 1 ∨ k = 2) with rfl | rfl | rfl
    · exact ⟨a, c, cell_new w _ _ 0 _ rfl, (h.alloc _).mono fun _ _ hd => .inl hd⟩
    · exact ⟨a2, c2, cell_new w _ _ 1 _ rfl, (h2.alloc _).mono fun _ _ hd => .inl hd⟩
    · exact ⟨a3, c3, cell_new w _ _ 2 _ rfl, (h3.alloc _).mono fun _ _ hd => .inl hd⟩⟩⟩

def All : Nat → Prop := fun _ => True

theorem two_lits (w : World) (A B : Array Value) (t t2 : TypeId) {xs ys : List Int} (h1 : Ints All (w.alloc (.cells A t)) (some ⟨w.heap.size, 0, Option.none⟩) xs)
    (h2 : Ints All ((w.alloc (.cells A t)).alloc (.cells B t2)) (some ⟨(w.alloc (.cells A t)).heap.size, 0, Option.none⟩) ys) :
    Ints All ((w.alloc (.cells A t)).alloc (.cells B t2)) (some ⟨w.heap.size, 0, Option.none⟩) xs ∧ Ints All ((w.alloc (.cells A t)).alloc (.cells B t2)) (some ⟨w.heap.size + 1, 0, Option.none⟩) ys := by
  rw [World.size_alloc] at h2
  exact ⟨h1.alloc _, h2⟩

theorem same_lits (w : World) (t : TypeId) :
    Mixes (fun b => All b ∨ b = w.heap.size + 3) ((((w.alloc (.cells #[.int .i64 3, .int .i64 0, .int .i64 1] t)).alloc (.cells #[.int .i64 2, .int .i64 0, .int .i64 1] t)).alloc (.cells #[.int .i64 2, .int .i64 0, .int .i64 0] t)).alloc
      (.cells #[.slice (some ⟨w.heap.size, 0, Option.none⟩) 3 3, .slice (some ⟨w.heap.size + 1, 0, Option.none⟩) 3 3, .slice (some ⟨w.heap.size + 2, 0, Option.none⟩) 3 3] 30)) (some ⟨w.heap.size + 3, 0, Option.none⟩) [[3, 0, 1], [2, 0, 1], [2, 0, 0]] := by
  have h1 := ((Ints.three All w 3 0 1 t trivial).alloc (.cells #[.int .i64 2, .int .i64 0, .int .i64 1] t)).alloc (.cells #[.int .i64 2, .int .i64 0, .int .i64 0] t)
  have h2 := (Ints.three All (w.alloc (.cells #[.int .i64 3, .int .i64 0, .int .i64 1] t)) 2 0 1 t trivial).alloc (.cells #[.int .i64 2, .int .i64 0, .int .i64 0] t)
  have h3 := Ints.three All ((w.alloc (.cells #[.int .i64 3, .int .i64 0, .int .i64 1] t)).alloc (.cells #[.int .i64 2, .int .i64 0, .int .i64 1] t)) 2 0 0 t trivial
  have h4 := Mixes.three h1 h2 h3 3 3 3 30
  simp only [World.size_alloc, List.length_cons, List.length_nil] at h4
  exact h4

set_option maxRecDepth 100000 in
set_option maxHeartbeats 3200000 in
theorem awake_any (w : World) : Calls Try.prog 11 #[] w fun e w' => e = .returned (.bool true) ∧ Mod NoBlock w w' := by
  go_enter Try.func11, Try.ntmps11
  go_wp2_with fail
  have M := Lib.hid ((Mod.refl NoBlock w).alloc (.cells #[.string ⟨#[112, 97, 112, 101, 114]⟩, .int .i64 100, .string ⟨#[103, 108, 97, 115, 115]⟩, .int .i64 1000] 25))
  have HL := Lib.hid (mats2 w ⟨#[112, 97, 112, 101, 114]⟩ ⟨#[103, 108, 97, 115, 115]⟩ 100 1000 25)
  rw [← World.size_alloc w (.cells #[.string ⟨#[112, 97, 112, 101, 114]⟩, .int .i64 100, .string ⟨#[103, 108, 97, 115, 115]⟩, .int .i64 1000] 25)]
  generalize w.alloc (.cells #[.string ⟨#[112, 97, 112, 101, 114]⟩, .int .i64 100, .string ⟨#[103, 108, 97, 115, 115]⟩, .int .i64 1000] 25) = w0 at M HL ⊢
  have HX := Lib.hid (show Mats (fun b => w.heap.size ≤ b) w0 (some ⟨w.heap.size, 0, Option.none⟩) exMats from HL.out)
  generalize w.heap.size = g at HX HL ⊢
  clear HL
  refine (matDivide_any _ 3 [7, 0, 2] 3 All _ (Ints.three All w0 7 0 2 _ trivial)).mono ?_
  rw [show divL [7, 0, 2] 3 = ([[3, 0, 1], [2, 0, 1], [2, 0, 0]], 0) by decide]
  rintro e w1 ⟨ad, cd, rfl, _, m, hd⟩
  have m := ((Mod.refl NoBlock w0).alloc _).trans m
  have M := Lib.hid (M.out.trans m); have HX := Lib.hid (HX.out.frame m); have HD := Lib.hid hd; clear m hd
  go_wp2_with fail
  refine (matTotal_any _ 2 [1, 2] All _ (Ints.pair All w1 1 2 _ trivial)).mono ?_
  rw [show totL [1, 2] = (3, 0) by decide]
  rintro e w2 ⟨rfl, m⟩
  have m := ((Mod.refl NoBlock w1).alloc _).trans m
  have M := Lib.hid (M.out.trans m); have HX := Lib.hid (HX.out.frame m); have HD := Lib.hid (HD.out.frame m); clear m
  go_wp2_with fail
  refine (matPurity_any _ 2 [1, 2] 1 All _ (Ints.pair All w2 1 2 _ trivial)).mono ?_
  rw [show purL [1, 2] 1 = (666, 0) by decide]
  rintro e w3 ⟨rfl, m⟩
  have m := ((Mod.refl NoBlock w2).alloc _).trans m
  have M := Lib.hid (M.out.trans m); have HX := Lib.hid (HX.out.frame m); have HD := Lib.hid (HD.out.frame m); clear m
  go_wp2_with fail
  refine (matLitres_any _ 2 exMats _ 2 [150, 1] _ All _ (HX.out.frame ((Mod.refl NoBlock w3).alloc _)) (Nat.le_refl _) (Ints.pair All w3 150 1 _ trivial)).mono ?_
  rw [exMats_lit]
  rintro e w4 ⟨rfl, m⟩
  have m := ((Mod.refl NoBlock w3).alloc _).trans m
  have M := Lib.hid (M.out.trans m); have HX := Lib.hid (HX.out.frame m); have HD := Lib.hid (HD.out.frame m); clear m
  go_wp2_with fail
  obtain ⟨p1, p2⟩ := two_lits w4 _ _ _ _ (Ints.pair All w4 1 2 _ trivial) (Ints.pair All (w4.alloc (.cells #[.int .i64 1, .int .i64 2] 3)) 3 4 3 trivial)
  refine (matAdd_any _ _ 2 2 [1, 2] [3, 4] All All _ p1 p2).mono ?_
  rw [show addL [1, 2] [3, 4] = ([4, 6], 0) by decide]
  rintro e w5 ⟨as_, cs, rfl, m, hs⟩
  clear p1 p2
  have m := (((Mod.refl NoBlock w4).alloc _).alloc _).trans m
  have M := Lib.hid (M.out.trans m); have HX := Lib.hid (HX.out.frame m); have HD := Lib.hid (HD.out.frame m); have HS := Lib.hid hs; clear m hs
  go_wp2_with fail
  obtain ⟨p1, p2⟩ := two_lits w5 _ _ _ _ (Ints.pair All w5 4 6 _ trivial) (Ints.pair All (w5.alloc (.cells #[.int .i64 4, .int .i64 6] 3)) 5 0 3 trivial)
  refine (matSub_any _ _ 2 2 [4, 6] [5, 0] All All _ p1 p2).mono ?_
  rw [show subL [4, 6] [5, 0] = ([], 1) by decide]
  rintro e w6 ⟨a6, c6, rfl, m, _⟩
  clear p1 p2
  have m := (((Mod.refl NoBlock w5).alloc _).alloc _).trans m
  have M := Lib.hid (M.out.trans m); have HX := Lib.hid (HX.out.frame m); have HD := Lib.hid (HD.out.frame m); have HS := Lib.hid (HS.out.frame m); clear m
  go_wp2_with fail
  obtain ⟨p1, p2⟩ := two_lits w6 _ _ _ _ (Ints.one All w6 1 _ trivial) (Ints.pair All (w6.alloc (.cells #[.int .i64 1] 3)) 1 2 3 trivial)
  refine (matAdd_any _ _ 1 2 [1] [1, 2] All All _ p1 p2).mono ?_
  rw [show addL [1] [1, 2] = ([], 18) by decide]
  rintro e w7 ⟨a7, c7, rfl, m, _⟩
  clear p1 p2
  have m := (((Mod.refl NoBlock w6).alloc _).alloc _).trans m
  have M := Lib.hid (M.out.trans m); have HX := Lib.hid (HX.out.frame m); have HD := Lib.hid (HD.out.frame m); have HS := Lib.hid (HS.out.frame m); clear m
  go_wp2_with fail
  refine (sameAll_any _ _ cd 3 [[3, 0, 1], [2, 0, 1], [2, 0, 0]] [[3, 0, 1], [2, 0, 1], [2, 0, 0]] _ _ _ ((((HD.out.alloc _).alloc _).alloc _).alloc _) (same_lits w7 _)).mono ?_
  rw [show decide (([[3, 0, 1], [2, 0, 1], [2, 0, 0]] : List (List Int)) = [[3, 0, 1], [2, 0, 1], [2, 0, 0]]) = true by decide]
  rintro e w8 ⟨rfl, m⟩
  have m := (((((Mod.refl NoBlock w7).alloc _).alloc _).alloc _).alloc _).drawn m
  have M := Lib.hid (M.out.trans m); have HX := Lib.hid (HX.out.frame m); have HS := Lib.hid (HS.out.frame m); clear m HD
  go_wp2_with fail
  refine (rsame_any _ _ cs 2 [4, 6] [4, 6] _ All _ (HS.out.alloc _) (Ints.pair All w8 4 6 _ trivial)).mono ?_
  rw [show decide (([4, 6] : List Int) = [4, 6]) = true by decide]
  rintro e w9 ⟨rfl, m⟩
  have m := ((Mod.refl NoBlock w8).alloc _).drawn m
  have M := Lib.hid (M.out.trans m); have HX := Lib.hid (HX.out.frame m); have HS := Lib.hid (HS.out.frame m); clear m
  go_wp2_with fail
  refine (matCheck_any _ 2 exMats _ _ HX.out (Nat.le_refl _)).mono ?_
  rw [exMats_ok]
  rintro e w10 ⟨rfl, m⟩
  have M := Lib.hid (M.out.trans m); have HS := Lib.hid (HS.out.frame m); clear m
  go_wp2_with fail
  refine (valid_any _ cs [4, 6] 2 _ _ HS.out).mono ?_
  rw [show validL [4, 6] 2 = true by decide]
  rintro e w11 ⟨rfl, m⟩
  have M := Lib.hid (M.out.trans m); clear m
  go_wp2
  go_ret
  exact ⟨rfl, M.out⟩

end Go.Proofs.Ytghciackhkimoaa
