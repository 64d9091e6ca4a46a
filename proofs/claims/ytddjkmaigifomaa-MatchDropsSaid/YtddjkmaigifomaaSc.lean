/-
  match: the reference's Copy; the law MatchShifts walked.
-/
import Derived.Test.YtddjkmaigifomaaSa
import Derived.Test.YtddjkmaigifomaaSb
import Derived.Test.YtddjkmaigifomaaMr
import Derived.Test.YtddjkmaigifomaaMx
set_option linter.unusedVariables false
set_option linter.unusedSimpArgs false
namespace Go.Proofs.Ytddjkmaigifomaa
open Go.RowKit

set_option maxRecDepth 100000 in
set_option maxHeartbeats 6400000 in
theorem refCopy_any {D : Nat → Prop} {w : World} {a : Option Addr} {c n k : Nat} {C : List (List Int)} (h : Mixes D w a C) (hR : Rect C n k) (n24 : n ≤ 30) (k24 : k ≤ 30) :
    Calls Try.prog 21 #[.slice a n c] w fun e w' => ∃ a1 c1 ad rc, e = .returned (.slice a1 n c1) ∧ CP w w' a1 c1 n k (fun i j => ix (rx C i) j) ad rc := by
  have HC := Lib.hid h
  have HR := Lib.hid hR
  have Hel := Lib.hid elemInt1
  have HeL := Lib.hid elemRows
  clear h hR
  go_enter Try.func21, Try.ntmps21
  go_wp2_with fail
  go_loopw [3, 4] (fun o i wr => ∃ (q : Nat) (a1 : Option Addr) (c1 : Nat) (ad : Nat → Option Addr) (rc : Nat → Nat), q ≤ n ∧ i = .int .i64 q ∧ o = .slice a1 q c1 ∧ CP w wr a1 c1 q k (fun i j => ix (rx C i) j) ad rc) (fun _ i _ => n - (intOf i).toNat)
  case atStart => exact ⟨0, none, 0, _, _, by omega, rfl, rfl, CP.nil _ _ _⟩
  case round =>
    obtain ⟨q, a1, c1, ad, rc, hq, rfl, rfl, hcp⟩ := hrel
    have G := Lib.hid hcp
    clear hcp
    obtain ⟨wo, rfl⟩ : ∃ wo : World, wo = wr := ⟨_, rfl⟩
    by_cases hlt : q < n
    · have q1 : (q : Int) < (n : Int) := by omega
      obtain ⟨b1, o1, a2, c2, rfl, -, hc1, hI1⟩ := HC.out.row (k := q) (by rw [HR.out.1]; exact hlt)
      rw [HR.out.2 q hlt] at hc1
      have h1 := G.out.mod.cell hc1 id
      have HI := Lib.hid (hI1.frame G.out.mod)
      have Hvl : Hid (((rx C q).map (Value.int .i64)).length = k) := Lib.hid (by rw [List.length_map]; exact HR.out.2 q hlt)
      have HRq := Lib.hid (HR.out.2 q hlt)
      have Hl2 := Lib.hid (hdrsO_length k ad rc q)
      have hsz := G.out.mod.size
      clear hI1 hc1
      go_wp2_with (first
        | (at_builtin; refine wpList_append1 (vs := []) rfl (.tmp 13) (.tmp 17) _ rfl Hel.out 0 k k c2 ((rx C q).map (Value.int .i64)) rfl rfl rfl Hvl.out.symm (by omega) (Own.nil _ wo.heap.size _) (Src.ints HI.out) (ints_one _) (by simp only [maxLen]; omega) (by omega) (Nat.le_refl _) ?_; intro a4 c4 w4 hown4 hgrow4 hat4
           rw [List.nil_append, rowV_of_ints, HRq.out] at hown4
           have HO := Lib.hid hown4
           have HM := Lib.hid (show Mod NoBlock wo w4 from (Mod.refl _ _).grown hgrow4 (fun k e => by cases e))
           have hsz4 := hgrow4.size
           clear hown4 hgrow4 hat4)
        | (at_builtin; refine wpList_append1 (vs := hdrsO k ad rc q) rfl (.tmp 12) (.tmp 19) _ rfl HeL.out q 1 (q + 1) 1 [.slice a4 k c4] rfl rfl Hl2.out.symm (by simp) (by omega) ((G.out.own.mod HM.out fun _ _ => id).alloc _) (Src.one _ _ _) (by simp [Value.oneCell']) (by simp only [maxLen]; omega) (by omega) (by simp; omega) ?_; intro a5 c5 w5 hown5 hgrow5 hat5))
      exact ⟨⟨q + 1, a5, c5, _, _, by omega, by go_num, rfl, G.out.push HM.out HO.out (fun _ _ _ _ => rfl) hown5 hgrow5 hat5⟩, by simp [intOf]; omega⟩
    · obtain rfl : n = q := by omega
      go_wp2_with fail
      go_ret
      exact ⟨a1, c1, ad, rc, rfl, G.out⟩

end Go.Proofs.Ytddjkmaigifomaa
