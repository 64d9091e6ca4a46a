/-
  The law BeltNews.
-/
import Derived.Test.YtinoekldcchfhaaLa
import Derived.Test.YtinoekldcchfhaaOpen
set_option linter.unusedVariables false
set_option linter.unusedSimpArgs false
namespace Go.Proofs.Ytinoekldcchfhaa
open Go.RowKit

theorem rowsNoughts {n m : Nat} (h : m ≤ 16) : ∀ i, i < n → validL (rx (noughts n m) i) m = true := fun i hi => by rw [rx_noughts hi]; exact valid_noughts h

set_option maxRecDepth 100000 in
set_option maxHeartbeats 1600000 in
theorem beltNews_ok (n m : Nat) (w : World) (hn : 1 ≤ n) (hn2 : n ≤ 16) (hm : 1 ≤ m) (hm2 : m ≤ 16) :
    Calls Try.prog 3 #[.int .i64 n, .int .i64 m] w fun e w' => e = .returned (.bool true) ∧ Mod NoBlock w w' := by
  go_enter Try.func3, Try.ntmps3
  go_wp2_with fail
  refine (new_gen (NotAt w.heap.size) n m _ (fun k hk => by unfold NotAt; omega) (fun h => h rfl) hn hn2 hm hm2).mono ?_
  rintro e w1 ⟨rfl, hm1, hb1⟩
  go_wp2_with fail
  refine (refNew_ok n m _ hn hn2 hm hm2).mono ?_
  rintro e w2 ⟨a2, c2, rfl, hc2, hm2', hx2⟩
  have hb2 := hb1.kept hm2'
  have hm12 := hm1.trans hm2'
  clear hb1 hm1 hm2'
  go_wp2_with fail
  have hbox := rowIs_new w2 #[.int .i64 m, .slice a2 n c2] 28
  have hb3 := hb2.kept ((Mod.refl NoBlock w2).alloc (.cells #[.int .i64 m, .slice a2 n c2] 28))
  have hx3 := hx2.alloc (.cells #[.int .i64 m, .slice a2 n c2] 28)
  have hm3 := hm12.alloc (.cells #[.int .i64 m, .slice a2 n c2] 28)
  generalize w2.alloc (.cells #[.int .i64 m, .slice a2 n c2] 28) = w3 at hbox hb3 hx3 hm3 ⊢
  generalize w2.heap.size = g at hbox ⊢
  clear hb2 hx2 hm12
  have g0 : w3.cell? ⟨g, 0, Option.none⟩ = some (.int .i64 m) := hbox.cell (by simp)
  have g1 : w3.cell? ⟨g, 1, Option.none⟩ = some (.slice a2 n c2) := hbox.cell (by simp)
  have Hb3 := Lib.hid hb3.drew
  have Hx3 := Lib.hid hx3
  have Hm3 := Lib.hid hm3
  clear hbox hb3 hx3 hm3
  go_region_held3 (fun w' => w'.cell? ⟨g, 0, Option.none⟩ = some (.int .i64 m) ∧ w'.cell? ⟨g, 1, Option.none⟩ = some (.slice a2 n c2))
    (first
      | go_keep
      | (go_split_ands
         exact ⟨hmc.cell ‹_› (fun h => h), hmc.cell ‹_› (fun h => h)⟩))
    (first
      | (go_at_call 13; refine (slots_n n (noughts_length n m) (na_fresh (by exact Hb3.out.lt)) Hb3.out).mono ?_; rintro e w4 ⟨a4, c4, rfl, hmc, hx4⟩
         have hk4 := hmc)
      | (go_at_call 12; refine (sameList_eq a4 a2 c4 c2 n _ (noughts_length n m) hx4 (by exact Mixes.frame (by exact Hx3.out) hk4)).mono ?_; rintro e w5 ⟨rfl, hmc⟩
         have hk5 := hk4.trans hmc)
      | (go_at_call 15; refine (total_gen (na_fresh (by exact (Hb3.out.kept hk5).lt)) (Hb3.out.kept hk5)).mono ?_; rintro e w6 ⟨a6, rfl, hmc, hx6⟩
         have hk6 := hk5.trans hmc)
      | (go_at_call 16; refine (refTotal_any _ m n (noughts n m) a2 c2 _ (by exact Mixes.frame (by exact Hx3.out) hk6) hm2 (noughts_length n m) hn2 (rowsNoughts hm2)).mono ?_; rintro e w7 ⟨a7, rfl, hmc, hx7⟩
         have hk7 := hk6.trans hmc
         have hx67 := hx6.frame hmc)
      | (go_at_call 14; refine (same_eq a6 a7 m m m _ (totalL_length m _) hx67 hx7).mono ?_; rintro e w8 ⟨rfl, hmc⟩
         have hk8 := hk7.trans hmc)
      | (go_at_call 17; refine (awake_any _).mono ?_; rintro e w9 ⟨rfl, hmc⟩
         have hk9 := hk8.trans hmc))
  have Hk := Lib.hid (Hm3.out.trans hk9.undrew)
  go_wp2
  go_ret
  exact ⟨rfl, Hk.out⟩

set_option maxRecDepth 100000 in
set_option maxHeartbeats 400000 in
theorem beltNews_bad (n m : Int) (w : World) (h : n < 1 ∨ 16 < n ∨ m < 1 ∨ 16 < m) :
    Calls Try.prog 3 #[.int .i64 n, .int .i64 m] w fun e w' => e = .returned (.bool true) ∧ Mod NoBlock w w' := by
  have h' := Lib.hid h
  clear h
  go_enter Try.func3, Try.ntmps3
  go_wp2_with fail
  refine (beltNew_bad n m _ h'.out).mono ?_
  rintro e w1 ⟨rfl, rfl⟩
  go_wp2_with fail
  refine (refNew_bad n m _ h'.out).mono ?_
  rintro e w2 ⟨rfl, hm2⟩
  go_wp2_with fail
  refine wp_region_kept (by kernel_rfl) (by kernel_rfl) ?_
  repeat (go_big_quiet_step ((go_at_call 17; exact calls_kept _ (awake_any _))))
  refine wpQuiet_nil ?_
  rintro w3 ⟨x3, rfl⟩
  go_wp2
  go_ret
  exact ⟨rfl, (hm2.alloc _).trans x3.mod⟩

theorem beltNews_fin (n : Int) (_ : I64 n) (m : Int) (_ : I64 m) (w : World) :
    Calls Try.prog 3 #[.int .i64 n, .int .i64 m] w fun e w' => e = .returned (.bool true) ∧ Mod NoBlock w w' := by
  by_cases h : n < 1 ∨ 16 < n ∨ m < 1 ∨ 16 < m
  · exact beltNews_bad n m w h
  · obtain ⟨n', rfl⟩ : ∃ k : Nat, n = k := ⟨n.toNat, by omega⟩
    obtain ⟨m', rfl⟩ : ∃ k : Nat, m = k := ⟨m.toNat, by omega⟩
    exact beltNews_ok n' m' w (by omega) (by omega) (by omega) (by omega)

end Go.Proofs.Ytinoekldcchfhaa
