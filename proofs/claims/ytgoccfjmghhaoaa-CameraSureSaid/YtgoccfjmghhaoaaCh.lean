/-
  camera: the reference's Start of a carry.
-/
import Derived.Test.YtgoccfjmghhaoaaCg
import Derived.Deep.RegionLaw
set_option linter.unusedVariables false
set_option linter.unusedSimpArgs false
namespace Go.Proofs.Ytgoccfjmghhaoaa
open Go.RowKit

theorem elemInts : Elem1 Try.prog 41 3 8 := Elem1.mk Try.underlying41 infoIntsC rfl

theorem Own.away {w : World} {B e b c : Nat} {a : Option Addr} {vs : List Value} (h : Own w B e a c vs) (hb : b < B) : some b ≠ blockOf a := fun e => by
  have := (h.lt e.symm).1
  omega

/-- The two slices of a carry of the reference, in rows of their own. -/
def Two (w : World) (B : Nat) (a1 : Option Addr) (c1 : Nat) (a2 : Option Addr) (c2 : Nat) (rs os : List Int) : Prop :=
  Own w B 3 a1 c1 (rs.map (Value.int .i64)) ∧ Own w B 3 a2 c2 (os.map (Value.int .i64)) ∧ ∀ b, blockOf a1 = some b → blockOf a2 ≠ some b
theorem Two.nil (w : World) (B : Nat) : Two w B none 0 none 0 [] [] := ⟨Own.nil _ _ _, Own.nil _ _ _, fun b h => by simp [blockOf] at h⟩
theorem Two.mono {w : World} {B B' : Nat} {a1 a2 : Option Addr} {c1 c2 : Nat} {rs os : List Int} (h : Two w B a1 c1 a2 c2 rs os) (hB : B' ≤ B) : Two w B' a1 c1 a2 c2 rs os := ⟨h.1.mono hB, h.2.1.mono hB, h.2.2⟩
theorem Two.mod {w w' : World} {B : Nat} {a1 a2 : Option Addr} {c1 c2 : Nat} {rs os : List Int} {D : Nat → Prop} (h : Two w B a1 c1 a2 c2 rs os) (m : Mod D w w') (hd : ∀ b, B ≤ b → b < w.heap.size → ¬ D b) : Two w' B a1 c1 a2 c2 rs os :=
  ⟨h.1.mod m (fun k hk => hd k (h.1.lt hk).1 (h.1.lt hk).2), h.2.1.mod m (fun k hk => hd k (h.2.1.lt hk).1 (h.2.1.lt hk).2), h.2.2⟩

theorem take_map_ix {l : List Int} {k : Nat} (h : k < l.length) : (l.take k).map (Value.int .i64) ++ [Value.int .i64 (ix l k)] = (l.take (k + 1)).map (Value.int .i64) := by rw [take_ix h]; simp
theorem repl_map (k : Nat) : (List.replicate k (0 : Int)).map (Value.int .i64) ++ [Value.int .i64 0] = (List.replicate (k + 1) (0 : Int)).map (Value.int .i64) := by rw [List.replicate_succ']; simp

set_option maxRecDepth 100000 in
set_option maxHeartbeats 3200000 in
theorem start_any (a : Option Addr) (c : Nat) (l : List Int) (D : Nat → Prop) (w : World) (hx : Ints D w a l) (l4 : l.length ≤ 4) :
    Calls Try.prog 29 #[.slice a l.length c] w fun e w' => ∃ a1 c1 a2 c2, e = .returned (.agg #[.slice a1 l.length c1, .slice a2 l.length c2]) ∧ Mod NoBlock w w' ∧ Two w' w.heap.size a1 c1 a2 c2 l (List.replicate l.length 0) := by
  have HX := Lib.hid hx
  have n4 : (l.length : Int) ≤ 4 := by omega
  clear hx
  go_enter Try.func29, Try.ntmps29
  go_wp2
  have hrb : ((w.alloc (.cells #[.slice none 0 0, .slice none 0 0] 68)).alloc (.cells #[.slice none 0 0, .slice none 0 0] 68)).rowIs w.heap.size 68 2 (fun i => (#[.slice none 0 0, .slice none 0 0] : Array Value).getD i undef) := (rowIs_new w _ _).alloc _
  have hsb : ((w.alloc (.cells #[.slice none 0 0, .slice none 0 0] 68)).alloc (.cells #[.slice none 0 0, .slice none 0 0] 68)).rowIs (w.heap.size + 1) 68 2 (fun i => (#[.slice none 0 0, .slice none 0 0] : Array Value).getD i undef) := by
    have := rowIs_new (w.alloc (.cells #[.slice none 0 0, .slice none 0 0] 68)) #[.slice none 0 0, .slice none 0 0] 68
    simpa using this
  have hm0 : Mod NoBlock w ((w.alloc (.cells #[.slice none 0 0, .slice none 0 0] 68)).alloc (.cells #[.slice none 0 0, .slice none 0 0] 68)) := ((Mod.refl _ _).alloc _).alloc _
  generalize (w.alloc (.cells #[.slice none 0 0, .slice none 0 0] 68)).alloc (.cells #[.slice none 0 0, .slice none 0 0] 68) = w0 at hrb hsb hm0 ⊢
  have Hrb := Lib.hid hrb
  have Hsb := Lib.hid hsb
  have Hm0 := Lib.hid hm0
  clear hrb hsb hm0
  go_loopw [4] (fun i wr => ∃ (k : Nat) (a1 : Option Addr) (c1 : Nat) (a2 : Option Addr) (c2 : Nat), k ≤ l.length ∧ i = .int .i64 k ∧ Mod NoBlock w wr ∧
      wr.rowIs w.heap.size 68 2 (fun i => (#[.slice none 0 0, .slice none 0 0] : Array Value).getD i undef) ∧
      wr.rowIs (w.heap.size + 1) 68 2 (fun i => (#[.slice a1 k c1, .slice a2 k c2] : Array Value).getD i undef) ∧ Two wr (w.heap.size + 2) a1 c1 a2 c2 (l.take k) (List.replicate k 0)) (fun i _ => l.length - (intOf i).toNat)
  case atStart => exact ⟨0, none, 0, none, 0, by omega, rfl, Hm0.out, Hrb.out, Hsb.out, Two.nil _ _⟩
  case round =>
    obtain ⟨k, a1, c1, a2, c2, hk, rfl, hm, hrb, hsb, htwo⟩ := hrel
    have hx1 := HX.out.frame hm
    obtain ⟨_, b, off, ha, hcl⟩ := hx1.open
    have hd1 : wr.cell? ⟨w.heap.size + 1, 0, none⟩ = some (.slice a1 k c1) := hsb.cell (by omega)
    by_cases hlt : k < l.length
    · have h1 := hcl k hlt
      obtain rfl := ha (by intro h; simp [h] at hlt)
      have hbl := World.block_lt_of_cell? _ _ h1
      have hbl : b < wr.heap.size := hbl
      have hsbl := hsb.lt
      have hne : some (w.heap.size + 1) ≠ blockOf a1 := fun e => by have := (htwo.1.lt e.symm).1; omega
      have hne0 : some w.heap.size ≠ blockOf a1 := fun e => by have := (htwo.1.lt e.symm).1; omega
      have hn2 : ∀ b, blockOf a2 = some b → some b ≠ blockOf a1 ∧ b < wr.heap.size := fun b e => ⟨fun e2 => htwo.2.2 b e2.symm e, (htwo.2.1.lt e).2⟩
      have hvl : ((l.take k).map (Value.int .i64)).length = k := by simp; omega
      have Htwo := Lib.hid htwo
      have Hm := Lib.hid hm
      have Hrb := Lib.hid hrb
      have Hsb := Lib.hid hsb
      have Hvl := Lib.hid hvl
      have HT := Lib.hid (take_map_ix hlt)
      generalize ix l k = v at h1 HT
      have k4 : (k : Int) < 4 := by omega
      clear htwo hm hrb hsb hvl hcl ha hx1
      go_wp2
      go_region_law (refine step_append1 (vs := (l.take k).map (Value.int .i64)) (by rfl) (.tmp 13) (.tmp 18) _ (by rfl) elemInts k 1 (k + 1) 1 [.int .i64 v] (by rfl) (by rfl) Hvl.out.symm (by simp) (by omega) (Htwo.out.1.alloc _) (Src.one _ _ _) (by simp [Value.oneCell']) (by simp only [maxLen]; omega) (by omega) (by simp; omega) ?_
                     intro a4 c4 w4 hown4 hgrow4 hat4
                     have hb4 : w4.heap[w.heap.size + 1]? = wr.heap[w.heap.size + 1]? := ((hgrow4.block _ (by simp; omega) hne).trans (Below.heap_alloc wr _ _ (by omega)))
                     have hr4 := Hsb.out.of_block hb4
                     have st1 : w4.cell? ⟨w.heap.size + 1, 0, Option.none⟩ = some (.slice a1 k c1) := hr4.cell (by omega)
                     have st2 : w4.frozen? ⟨w.heap.size + 1, 0, Option.none⟩ = false := hr4.frozen 0)
      all_goals
        have hm5 : Mod NoBlock w (w4.setCell ⟨w.heap.size + 1, 0, Option.none⟩ (.slice a4 (k + 1) c4)) :=
          ((Hm.out.alloc _).drew.grown hgrow4 fun b hb => .inr (by have := (Htwo.out.1.lt hb).1; omega)).setCell (p := ⟨w.heap.size + 1, 0, Option.none⟩) (.inr (by simp)) _
        have hrb5 : (w4.setCell ⟨w.heap.size + 1, 0, Option.none⟩ (.slice a4 (k + 1) c4)).rowIs w.heap.size 68 2 (fun i => (#[.slice none 0 0, .slice none 0 0] : Array Value).getD i undef) := by
          refine World.rowIs.setOther ?_ (by simp) _
          exact Hrb.out.of_block ((hgrow4.block _ (by simp; omega) hne0).trans (Below.heap_alloc wr _ _ (by omega)))
        have hsb5 : (w4.setCell ⟨w.heap.size + 1, 0, Option.none⟩ (.slice a4 (k + 1) c4)).rowIs (w.heap.size + 1) 68 2 (fun i => (#[.slice a4 (k + 1) c4, .slice a2 k c2] : Array Value).getD i undef) := by
          refine (hr4.set 0 _).congr fun i hi => ?_
          rcases (by omega : i = 0 ∨ i = 1) with rfl | rfl <;> rfl
        have ms5 : Mod (fun b => b = w.heap.size + 1) w4 (w4.setCell ⟨w.heap.size + 1, 0, Option.none⟩ (.slice a4 (k + 1) c4)) := (Mod.refl _ w4).set1 _ _
        have hown5 : Own (w4.setCell ⟨w.heap.size + 1, 0, Option.none⟩ (.slice a4 (k + 1) c4)) (w.heap.size + 2) 3 a4 c4 ((l.take (k + 1)).map (Value.int .i64)) := by
          rw [← HT.out]
          exact hown4.mod ms5 (fun b hb e => by have := (hown4.lt hb).1; omega)
        have hown6 : Own (w4.setCell ⟨w.heap.size + 1, 0, Option.none⟩ (.slice a4 (k + 1) c4)) (w.heap.size + 2) 3 a2 c2 ((List.replicate k (0 : Int)).map (Value.int .i64)) :=
          (Htwo.out.2.1.same (fun b hb => (hgrow4.block b (by simp; have := (hn2 b hb).2; omega) (hn2 b hb).1).trans (Below.heap_alloc wr _ _ (hn2 b hb).2))).mod ms5 (fun b hb e => by have := (Htwo.out.2.1.lt hb).1; omega)
        have hdis : ∀ b, blockOf a4 = some b → blockOf a2 ≠ some b := fun b h1 h2 => by
          have h3 := hn2 b h2
          rcases hat4 with h4 | h4
          · exact h3.1 (h1.symm.trans h4)
          · rw [h1] at h4; injection h4 with h4; simp at h4; omega
        generalize w4.setCell ⟨w.heap.size + 1, 0, Option.none⟩ (.slice a4 (k + 1) c4) = W at hm5 hrb5 hsb5 hown5 hown6 ⊢
        have Hm5 := Lib.hid hm5
        have Hrb5 := Lib.hid hrb5
        have Hsb5 := Lib.hid hsb5
        have Hown5 := Lib.hid hown5
        have Hown6 := Lib.hid hown6
        have Hdis := Lib.hid hdis
        have e1 : W.cell? ⟨w.heap.size + 1, 1, none⟩ = some (.slice a2 k c2) := hsb5.cell (by omega)
        have hsz := hsb5.lt
        clear hm5 hrb5 hsb5 hown5 hown6 hdis ms5 st1 st2 hr4 hb4 hat4 hgrow4 hown4 Htwo Hm Hrb Hsb hn2 hne hne0 hbl hsbl hd1 h1
        go_wp2_with (at_builtin; refine wpList_append1 (vs := (List.replicate k (0 : Int)).map (Value.int .i64)) rfl (.tmp 22) (.tmp 23) _ rfl elemInts k 1 (k + 1) 1 [.int .i64 0] rfl rfl (by simp) (by simp) (by omega) (Hown6.out.alloc _) (Src.one _ _ _) (by simp [Value.oneCell']) (by simp only [maxLen]; omega) (by omega) (by simp; omega) ?_
                     intro a6 c6 w6 hown7 hgrow7 hat7
                     have hneb := Hown6.out.away (b := w.heap.size + 1) (Nat.lt_succ_self _)
                     have hr6 : w6.rowIs (w.heap.size + 1) 68 2 (fun i => (#[.slice a4 (k + 1) c4, .slice a2 k c2] : Array Value).getD i undef) := Hsb5.out.of_block ((hgrow7.block _ (by simp; omega) hneb).trans (Below.heap_alloc W _ _ hsz))
                     have st1 : w6.cell? ⟨w.heap.size + 1, 1, Option.none⟩ = some (.slice a2 k c2) := hr6.cell (by omega)
                     have st2 : w6.frozen? ⟨w.heap.size + 1, 1, Option.none⟩ = false := hr6.frozen 1
                     have hneb0 := Hown6.out.away (b := w.heap.size) (by omega)
                     have hrr6 := Hrb5.out.of_block ((hgrow7.block _ (by simp; omega) hneb0).trans (Below.heap_alloc W _ _ (by omega))))
        have hm6 : Mod NoBlock w w6 := (Hm5.out.alloc _).grown hgrow7 fun b hb => .inr (by have := (Hown6.out.lt hb).1; omega)
        have ho5 : Own w6 (w.heap.size + 2) 3 a4 c4 ((l.take (k + 1)).map (Value.int .i64)) := Hown5.out.same (fun b hb => (hgrow7.block b (by simp; have := (Hown5.out.lt hb).2; omega) (fun e => Hdis.out b hb e.symm)).trans (Below.heap_alloc W _ _ (Hown5.out.lt hb).2))
        have hdis2 : ∀ b, blockOf a4 = some b → blockOf a6 ≠ some b := fun b h1 h2 => by
          rcases hat7 with h4 | h4
          · exact Hdis.out b h1 (h4.symm.trans h2)
          · rw [h2] at h4; injection h4 with h4; have := (Hown5.out.lt h1).2; simp at h4; omega
        have Hhm6 := Lib.hid hm6
        have Hho5 := Lib.hid ho5
        have Hho7 := Lib.hid hown7
        have Hhr6 := Lib.hid hr6
        have Hhrr6 := Lib.hid hrr6
        have Hdis2 := Lib.hid hdis2
        have ms6 : Mod (fun b => b = w.heap.size + 1) w6 (w6.setCell ⟨w.heap.size + 1, 1, Option.none⟩ (.slice a6 (k + 1) c6)) := (Mod.refl _ w6).set1 _ _
        refine ⟨⟨k + 1, a4, c4, a6, c6, by omega, by go_num, Hhm6.out.setCell (p := ⟨w.heap.size + 1, 1, Option.none⟩) (.inr (by simp)) _, Hhrr6.out.setOther (by simp) _, (Hhr6.out.set 1 _).congr (fun i hi => by rcases (by omega : i = 0 ∨ i = 1) with rfl | rfl <;> rfl), ?_⟩, by simp [intOf]; omega⟩
        exact ⟨Hho5.out.mod ms6 (fun b hb e => by have := (Hho5.out.lt hb).1; omega), by rw [← repl_map]; exact Hho7.out.mod ms6 (fun b hb e => by have := (Hho7.out.lt hb).1; omega), Hdis2.out⟩
    · obtain rfl : k = l.length := by omega
      have hd2 : wr.cell? ⟨w.heap.size + 1, 1, none⟩ = some (.slice a2 l.length c2) := hsb.cell (by omega)
      have b0 : wr.cell? ⟨w.heap.size, 0, Option.none⟩ = some (.slice none 0 0) := hrb.cell (by omega)
      have b1 : wr.cell? ⟨w.heap.size, 1, Option.none⟩ = some (.slice none 0 0) := hrb.cell (by omega)
      have f0 : wr.frozen? ⟨w.heap.size, 0, Option.none⟩ = false := hrb.frozen 0
      have f1 : wr.frozen? ⟨w.heap.size, 1, Option.none⟩ = false := hrb.frozen 1
      have Htwo := Lib.hid htwo
      have Hm := Lib.hid hm
      have Hrb := Lib.hid hrb
      clear htwo hm hrb hsb hcl ha hx1
      go_wp2
      have hm6 : Mod NoBlock w ((wr.setCell ⟨w.heap.size, 0, Option.none⟩ (.slice a1 l.length c1)).setCell ⟨w.heap.size, 1, Option.none⟩ (.slice a2 l.length c2)) :=
        (Hm.out.setCell (p := ⟨w.heap.size, 0, Option.none⟩) (.inr (Nat.le_refl _)) _).setCell (p := ⟨w.heap.size, 1, Option.none⟩) (.inr (Nat.le_refl _)) _
      have hrb6 : ((wr.setCell ⟨w.heap.size, 0, Option.none⟩ (.slice a1 l.length c1)).setCell ⟨w.heap.size, 1, Option.none⟩ (.slice a2 l.length c2)).rowIs w.heap.size 68 2 (fun i => (#[.slice a1 l.length c1, .slice a2 l.length c2] : Array Value).getD i undef) := by
        refine ((Hrb.out.set 0 _).set 1 _).congr fun i hi => ?_
        rcases (by omega : i = 0 ∨ i = 1) with rfl | rfl <;> rfl
      have htwo6 := Htwo.out.mod (((Mod.refl (fun b => b = w.heap.size) wr).set1 0 (.slice a1 l.length c1)).set1 1 (.slice a2 l.length c2)) (fun b hb _ e => by omega)
      generalize (wr.setCell ⟨w.heap.size, 0, Option.none⟩ (.slice a1 l.length c1)).setCell ⟨w.heap.size, 1, Option.none⟩ (.slice a2 l.length c2) = w6 at hm6 hrb6 htwo6 ⊢
      have g0 : w6.cell? ⟨w.heap.size, 0, Option.none⟩ = some (.slice a1 l.length c1) := hrb6.cell (by omega)
      have g1 : w6.cell? ⟨w.heap.size, 1, Option.none⟩ = some (.slice a2 l.length c2) := hrb6.cell (by omega)
      refine bodyPost_ret (v := .agg #[.slice a1 l.length c1, .slice a2 l.length c2]) (by simp [results, Try.results29, go_sem, g0, g1]) rfl ⟨a1, c1, a2, c2, rfl, hm6, ?_⟩
      rw [List.take_length] at htwo6
      exact htwo6.mono (by omega)

end Go.Proofs.Ytgoccfjmghhaoaa
