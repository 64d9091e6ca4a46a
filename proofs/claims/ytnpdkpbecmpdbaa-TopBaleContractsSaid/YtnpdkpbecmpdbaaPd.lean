/-
  share.Split, as far as a caller needs it that goes on with parts of the right number: what lies in memory; the sums.
-/
import Derived.Test.YtnpdkpbecmpdbaaPa
import Derived.Test.YtnpdkpbecmpdbaaPb
import Derived.Test.YtnpdkpbecmpdbaaPc
import Derived.Test.YtnpdkpbecmpdbaaHp
import Derived.Test.YtnpdkpbecmpdbaaMb
set_option linter.unusedVariables false
set_option linter.unusedSimpArgs false
namespace Go.Proofs.Ytnpdkpbecmpdbaa
open Go.RowKit

/-- The quotients so far, Q, against the weights so far, X. -/
def Parts (T s X Q k : Nat) : Prop := s * Q ≤ T * X ∧ T * X ≤ s * (Q + k)
theorem Parts.zero (T s : Nat) : Parts T s 0 0 0 := ⟨by simp, by simp⟩
theorem Parts.step {T s X Q k x d : Nat} (h : Parts T s X Q k) (hs : 0 < s) (hd : T * x / s = d) : Parts T s (X + x) (Q + d) (k + 1) := by
  have h1 := Nat.div_add_mod (T * x) s
  have h2 := Nat.mod_lt (T * x) hs
  rw [hd] at h1
  obtain ⟨h3, h4⟩ := h
  have e1 : s * (Q + d) = s * Q + s * d := Nat.mul_add _ _ _
  have e2 : T * (X + x) = T * X + T * x := Nat.mul_add _ _ _
  have e3 : s * (Q + d + (k + 1)) = s * (Q + k) + s * d + s := by rw [show Q + d + (k + 1) = (Q + k) + d + 1 by omega, Nat.mul_add, Nat.mul_add, Nat.mul_one]
  exact ⟨by omega, by omega⟩
theorem Parts.le {T s X Q k : Nat} (h : Parts T s X Q k) (hs : 0 < s) (hX : X ≤ s) : Q ≤ T := by
  have h1 : T * X ≤ T * s := Nat.mul_le_mul_left _ hX
  have h2 : s * Q ≤ s * T := by rw [Nat.mul_comm s T]; exact Nat.le_trans h.1 h1
  exact Nat.le_of_mul_le_mul_left h2 hs
theorem Parts.ge {T s Q k : Nat} (h : Parts T s s Q k) (hs : 0 < s) : T ≤ Q + k := by
  have h2 : s * T ≤ s * (Q + k) := by rw [Nat.mul_comm s T]; exact h.2
  exact Nat.le_of_mul_le_mul_left h2 hs

/-- Numbers from 0 on: a part of their sum is no greater. -/
theorem sum_ge {l : List Int} (h : ∀ k, k < l.length → 0 ≤ ix l k) : 0 ≤ l.sum := by
  induction l with
  | nil => simp
  | cons x r ih =>
    have h0 := h 0 (by simp)
    have hr := ih fun k hk => by have := h (k + 1) (by simp; omega); simpa [ix] using this
    simp [ix] at h0
    simp only [List.sum_cons]
    omega
theorem sum_take {l : List Int} (h : ∀ k, k < l.length → 0 ≤ ix l k) (k : Nat) : 0 ≤ (l.take k).sum ∧ (l.take k).sum ≤ l.sum := by
  have h1 : 0 ≤ (l.take k).sum := sum_ge fun j hj => by
    rw [List.length_take] at hj
    have := h j (by omega)
    simpa [ix, List.getElem?_take, show j < k by omega] using this
  have h2 : 0 ≤ (l.drop k).sum := sum_ge fun j hj => by
    rw [List.length_drop] at hj
    have := h (k + j) (by omega)
    simpa [ix, List.getElem?_drop] using this
  have h3 : l.sum = (l.take k).sum + (l.drop k).sum := by rw [← List.sum_append, List.take_append_drop]
  omega
theorem sum_step {l : List Int} {k : Nat} (hk : k < l.length) : (l.take (k + 1)).sum = (l.take k).sum + ix l k := by
  rw [take_ix hk, List.sum_append]
  simp

theorem sum_le {l : List Int} {B : Int} (h : ∀ k, k < l.length → ix l k ≤ B) : l.sum ≤ l.length * B := by
  induction l with
  | nil => simp
  | cons x r ih =>
    have h0 := h 0 (by simp)
    have hr := ih fun k hk => by have := h (k + 1) (by simp; omega); simpa [ix] using this
    simp [ix] at h0
    simp only [List.sum_cons, List.length_cons]
    rw [Int.natCast_add, Int.add_mul]
    omega
/-- What is known of a division under way at weight k. -/
structure SpI (T s : Nat) (xs : List Int) (k Q X : Nat) (p r : Nat → Int) (o : Nat → Nat) : Prop where
  parts : Parts T s X Q k
  sum : (xs.take k).sum = (X : Int)
  pb : ∀ j, j < xs.length → 0 ≤ p j ∧ p j ≤ 1073741824
  rb : ∀ j, j < xs.length → 0 ≤ r j ∧ r j ≤ 1152921504606846976
  ob : ∀ j, j < k → o j = j
theorem SpI.zero (T s : Nat) (xs : List Int) : SpI T s xs 0 0 0 (fun _ => 0) (fun _ => 0) (fun _ => 0) :=
  ⟨Parts.zero T s, by simp, fun j _ => by omega, fun j _ => by omega, fun j hj => absurd hj (Nat.not_lt_zero j)⟩
def updS {α : Type} (f : Nat → α) (k : Nat) (x : α) (j : Nat) : α := if j = k then x else f j
theorem updS_at {α : Type} (f : Nat → α) (k : Nat) (x : α) : updS f k x k = x := if_pos rfl
theorem updS_ne {α : Type} {f : Nat → α} {k : Nat} {x : α} {j : Nat} (h : j ≠ k) : updS f k x j = f j := if_neg h
theorem SpI.step {T s : Nat} {xs : List Int} {k Q X x q d m : Nat} {p r : Nat → Int} {o : Nat → Nat} (h : SpI T s xs k Q X p r o) (hs : 0 < s) (hT : T ≤ 1073741824) (hsl : s ≤ 17179869184) (hk : k < xs.length) (hx : ix xs k = (x : Int)) (hsum : (s : Int) = xs.sum) (hp : ∀ k, k < xs.length → 0 ≤ ix xs k)
    (hq : T * x = q) (hd : q / s = d) (hm : q % s = m) : SpI T s xs (k + 1) (Q + d) (X + x) (updS p k (d : Int)) (updS r k (m : Int)) (updS o k k) ∧ Q + d ≤ T := by
  subst hq
  have h1 := h.parts.step hs hd
  have h2 : (xs.take (k + 1)).sum = ((X + x : Nat) : Int) := by rw [sum_step hk, h.sum, hx]; omega
  have h3 := (sum_take hp (k + 1)).2
  have hQ : Q + d ≤ T := h1.le hs (by omega)
  have hm2 : m < s := by rw [← hm]; exact Nat.mod_lt _ hs
  refine ⟨⟨h1, h2, fun j hj => ?_, fun j hj => ?_, fun j hj => ?_⟩, hQ⟩
  · by_cases e : j = k
    · rw [e, updS_at]; omega
    · rw [updS_ne e]; exact h.pb j hj
  · by_cases e : j = k
    · rw [e, updS_at]; omega
    · rw [updS_ne e]; exact h.rb j hj
  · by_cases e : j = k
    · rw [e, updS_at]
    · rw [updS_ne e]; exact h.ob j (by omega)
theorem SpI.leT {T s : Nat} {xs : List Int} {k Q X : Nat} {p r : Nat → Int} {o : Nat → Nat} (h : SpI T s xs k Q X p r o) (hs : 0 < s) (hsum : (s : Int) = xs.sum) (hp : ∀ k, k < xs.length → 0 ≤ ix xs k) : Q ≤ T := by
  have h3 := (sum_take hp k).2
  have := h.sum
  exact h.parts.le hs (by omega)
theorem SpI.last {T s : Nat} {xs : List Int} {Q X : Nat} {p r : Nat → Int} {o : Nat → Nat} (h : SpI T s xs xs.length Q X p r o) (hs : 0 < s) (hsum : (s : Int) = xs.sum) : Q ≤ T ∧ T ≤ Q + xs.length := by
  have h1 := h.sum
  rw [List.take_length] at h1
  obtain rfl : X = s := by omega
  exact ⟨h.parts.le hs (Nat.le_refl _), h.parts.ge hs⟩

/-- A division under way: the parts (block bp), the box of the remainders (B), the remainders (br), the order (bo). -/
structure SpS (W wr : World) (bp B br bo n : Nat) (p r : Nat → Int) (o : Nat → Nat) : Prop where
  mod : Mod NoBlock W wr
  hp : wr.rowIs bp 3 n (fun j => .int .i64 (p j))
  hB : wr.rowIs B 31 1 (fun _ => .slice (some ⟨br, 0, none⟩) n n)
  hr : wr.rowIs br 3 n (fun j => .int .i64 (r j))
  ho : wr.rowIs bo 3 n (fun j => .int .i64 (o j : Int))
  ne : bp ≠ B ∧ bp ≠ br ∧ bp ≠ bo ∧ B ≠ br ∧ B ≠ bo ∧ br ≠ bo
  ge : W.heap.size ≤ bp ∧ W.heap.size ≤ B ∧ W.heap.size ≤ br ∧ W.heap.size ≤ bo

section
variable {W wr w' : World} {bp B br bo n : Nat} {p r : Nat → Int} {o : Nat → Nat}
theorem SpS.drewN (h : SpS W wr bp B br bo n p r o) (k : Nat) : SpS W (wr.drewN k) bp B br bo n p r o := ⟨h.mod.drewN k, h.hp, h.hB, h.hr, h.ho, h.ne, h.ge⟩
theorem SpS.drew (h : SpS W wr bp B br bo n p r o) : SpS W wr.drew bp B br bo n p r o := h.drewN 1
theorem SpS.drawn (h : SpS W wr bp B br bo n p r o) (k : Drawn wr w') : SpS W w' bp B br bo n p r o := by obtain ⟨k, rfl⟩ := k; exact h.drewN k
theorem SpS.setP (h : SpS W wr bp B br bo n p r o) {k : Nat} {x : Int} {p' : Nat → Int} (hx : k < n → x = p' k) (hf : ∀ j, j < n → j ≠ k → p j = p' j) : SpS W (wr.setCell ⟨bp, k, none⟩ (.int .i64 x)) bp B br bo n p' r o :=
  ⟨h.mod.setCell (p := ⟨bp, k, none⟩) (.inr h.ge.1) _, set_row h.hp (fun hk => by rw [hx hk]) (fun j hj e => by rw [hf j hj e]), h.hB.setOther (by have := h.ne; show ¬ B = bp; omega) _, h.hr.setOther (by have := h.ne; show ¬ br = bp; omega) _, h.ho.setOther (by have := h.ne; show ¬ bo = bp; omega) _, h.ne, h.ge⟩
theorem SpS.setR (h : SpS W wr bp B br bo n p r o) {k : Nat} {x : Int} {r' : Nat → Int} (hx : k < n → x = r' k) (hf : ∀ j, j < n → j ≠ k → r j = r' j) : SpS W (wr.setCell ⟨br, k, none⟩ (.int .i64 x)) bp B br bo n p r' o :=
  ⟨h.mod.setCell (p := ⟨br, k, none⟩) (.inr h.ge.2.2.1) _, h.hp.setOther (by have := h.ne; show ¬ bp = br; omega) _, h.hB.setOther (by have := h.ne; show ¬ B = br; omega) _, set_row h.hr (fun hk => by rw [hx hk]) (fun j hj e => by rw [hf j hj e]), h.ho.setOther (by have := h.ne; show ¬ bo = br; omega) _, h.ne, h.ge⟩
theorem SpS.setO (h : SpS W wr bp B br bo n p r o) {k x : Nat} {o' : Nat → Nat} (hx : k < n → x = o' k) (hf : ∀ j, j < n → j ≠ k → o j = o' j) : SpS W (wr.setCell ⟨bo, k, none⟩ (.int .i64 (x : Int))) bp B br bo n p r o' :=
  ⟨h.mod.setCell (p := ⟨bo, k, none⟩) (.inr h.ge.2.2.2) _, h.hp.setOther (by have := h.ne; show ¬ bp = bo; omega) _, h.hB.setOther (by have := h.ne; show ¬ B = bo; omega) _, h.hr.setOther (by have := h.ne; show ¬ br = bo; omega) _, set_row h.ho (fun hk => by rw [hx hk]) (fun j hj e => by rw [hf j hj e]), h.ne, h.ge⟩
theorem SpS.sorted (h : SpS W wr bp B br bo n p r o) (hs : SortRes wr bo n w') : ∃ o', SpS W w' bp B br bo n p r o' ∧ ∀ j, j < n → o' j < n := by
  obtain ⟨m, o', hI⟩ := hs
  refine ⟨o', ⟨h.mod.step m fun i hi e => ?_, h.hp.of_block (m.block _ h.hp.lt (by have := h.ne; show ¬ bp = bo; omega)), h.hB.of_block (m.block _ h.hB.lt (by have := h.ne; show ¬ B = bo; omega)), h.hr.of_block (m.block _ h.hr.lt (by have := h.ne; show ¬ br = bo; omega)), hI.row, h.ne, h.ge⟩, hI.bd⟩
  have := h.ge.2.2.2
  have e' : i = bo := e
  omega
theorem SpS.box (h : SpS W wr bp B br bo n p r o) : wr.cell? ⟨B, 0, none⟩ = some (.slice (some ⟨br, 0, none⟩) n n) := h.hB.cell (i := 0) (by omega)
theorem SpS.rests (h : SpS W wr bp B br bo n p r o) (hb : ∀ j, j < n → 0 ≤ r j ∧ r j ≤ 1152921504606846976) (hn : n ≤ 16) : Rests wr B br n r := ⟨h.box, fun j hj => h.hr.cell hj, hb, by omega⟩
end

/-- The cells of a new row of zeros. -/
def MadeIs (mc : Array Value) (n : Nat) : Prop := ∀ w : World, (w.alloc (.cells mc 3)).rowIs w.heap.size 3 n (fun _ => .int .i64 0)
theorem madeIs (n : Nat) : MadeIs (madeCells #[.int .i64 0] n) n := fun w => World.rowIs_made w (.int .i64 0) n 3
section
variable (w : World) {n : Nat} (o0 o1 o2 o3 : Obj) (v : Value) {mc : Array Value}
theorem made0 (h : MadeIs mc n) : ((((w.alloc (.cells mc 3)).alloc o1).alloc o2).alloc o3).rowIs w.heap.size 3 n (fun _ => .int .i64 0) :=
  (((h w).alloc _).alloc _).alloc _
theorem made1 (h : MadeIs mc n) : ((((w.alloc o0).alloc (.cells mc 3)).alloc o2).alloc o3).rowIs (w.heap.size + 1) 3 n (fun _ => .int .i64 0) := by
  have h := h (w.alloc o0)
  rw [show (w.alloc o0).heap.size = w.heap.size + 1 by simp] at h
  exact (h.alloc _).alloc _
theorem made2 (h : MadeIs mc n) : ((((w.alloc o0).alloc o1).alloc (.cells mc 3)).alloc o3).rowIs (w.heap.size + 1 + 1) 3 n (fun _ => .int .i64 0) := by
  have h := h ((w.alloc o0).alloc o1)
  rw [show ((w.alloc o0).alloc o1).heap.size = w.heap.size + 1 + 1 by simp] at h
  exact h.alloc _
theorem made3 (h : MadeIs mc n) : ((((w.alloc o0).alloc o1).alloc o2).alloc (.cells mc 3)).rowIs (w.heap.size + 1 + 1 + 1) 3 n (fun _ => .int .i64 0) := by
  have h := h (((w.alloc o0).alloc o1).alloc o2)
  rw [show (((w.alloc o0).alloc o1).alloc o2).heap.size = w.heap.size + 1 + 1 + 1 by simp] at h
  exact h
theorem box_is (w : World) (v : Value) : (w.alloc (.cells #[v] 31)).rowIs w.heap.size 31 1 (fun _ => v) := (rowIs_new w #[v] 31).congr fun i hi => by
  have hi' : i < 1 := hi
  obtain rfl : i = 0 := by omega
  rfl
theorem box0 : ((((w.alloc (.cells #[v] 31)).alloc o1).alloc o2).alloc o3).rowIs w.heap.size 31 1 (fun _ => v) := (((box_is w v).alloc _).alloc _).alloc _
theorem box1 : ((((w.alloc o0).alloc (.cells #[v] 31)).alloc o2).alloc o3).rowIs (w.heap.size + 1) 31 1 (fun _ => v) := by
  have h := box_is (w.alloc o0) v
  rw [show (w.alloc o0).heap.size = w.heap.size + 1 by simp] at h
  exact (h.alloc _).alloc _
theorem box2 : ((((w.alloc o0).alloc o1).alloc (.cells #[v] 31)).alloc o3).rowIs (w.heap.size + 1 + 1) 31 1 (fun _ => v) := by
  have h := box_is ((w.alloc o0).alloc o1) v
  rw [show ((w.alloc o0).alloc o1).heap.size = w.heap.size + 1 + 1 by simp] at h
  exact h.alloc _
theorem box3 : ((((w.alloc o0).alloc o1).alloc o2).alloc (.cells #[v] 31)).rowIs (w.heap.size + 1 + 1 + 1) 31 1 (fun _ => v) := by
  have h := box_is (((w.alloc o0).alloc o1).alloc o2) v
  rw [show (((w.alloc o0).alloc o1).alloc o2).heap.size = w.heap.size + 1 + 1 + 1 by simp] at h
  exact h
end
theorem of_pos (h : Nat) {i j : Nat} (e : i ≠ j) : h + i ≠ h + j := fun x => e (Nat.add_left_cancel x)
theorem le_pos (h i : Nat) : h ≤ h + i := Nat.le_add_right h i
theorem sp_made {w : World} {o0 o1 o2 o3 : Obj} {bp B br bo n : Nat} (hB : ((((w.alloc o0).alloc o1).alloc o2).alloc o3).rowIs B 31 1 (fun _ => .slice (some ⟨br, 0, none⟩) n n))
    (hp : ((((w.alloc o0).alloc o1).alloc o2).alloc o3).rowIs bp 3 n (fun _ => .int .i64 0))
    (hr : ((((w.alloc o0).alloc o1).alloc o2).alloc o3).rowIs br 3 n (fun _ => .int .i64 0))
    (ho : ((((w.alloc o0).alloc o1).alloc o2).alloc o3).rowIs bo 3 n (fun _ => .int .i64 0))
    (hne : bp ≠ B ∧ bp ≠ br ∧ bp ≠ bo ∧ B ≠ br ∧ B ≠ bo ∧ br ≠ bo) (hge : w.heap.size ≤ bp ∧ w.heap.size ≤ B ∧ w.heap.size ≤ br ∧ w.heap.size ≤ bo) :
    SpS w ((((w.alloc o0).alloc o1).alloc o2).alloc o3).drew bp B br bo n (fun _ => 0) (fun _ => 0) (fun _ => 0) :=
  ⟨(((((Mod.refl _ w).alloc _).alloc _).alloc _).alloc _).drew, hp, hB, hr, ho, hne, hge⟩

theorem SpS.ints {W wr w : World} {bp B br bo n : Nat} {p r : Nat → Int} {o : Nat → Nat} (h : SpS W wr bp B br bo n p r o) (hw : w.heap.size ≤ W.heap.size) (hn : n ≤ 16) : Ints (fun b => w.heap.size ≤ b) wr (some ⟨bp, 0, none⟩) (rowI n p) :=
  Ints.of_row h.hp (by rw [rowI_length]; exact Nat.le_refl _) (by rw [rowI_length]; simp only [maxLen]; omega) (fun k hk => by rw [rowI_length] at hk; rw [rowI_ix hk]) (by have := h.ge.1; omega)
/-- What Split returns. -/
def SpRes (xs : List Int) (w : World) (e : Ending) (w' : World) : Prop :=
  ∃ (a' : Option Addr) (c' : Nat) (ps : List Int) (er : Int), e = .returned (.tuple #[.slice a' ps.length c', .int .i64 er]) ∧ Mod NoBlock w w' ∧
    (er = 0 → ps.length = xs.length ∧ Ints (fun b => w.heap.size ≤ b) w' a' ps ∧ ∀ k, k < ps.length → 0 ≤ ix ps k ∧ ix ps k ≤ 2147483648)
theorem SpRes.bad {xs : List Int} {w w' : World} {er : Int} (m : Mod NoBlock w w') (h : er ≠ 0) : SpRes xs w (.returned (.tuple #[.slice none 0 0, .int .i64 er])) w' := ⟨none, 0, [], er, rfl, m, fun e => absurd e h⟩

end Go.Proofs.Ytnpdkpbecmpdbaa
