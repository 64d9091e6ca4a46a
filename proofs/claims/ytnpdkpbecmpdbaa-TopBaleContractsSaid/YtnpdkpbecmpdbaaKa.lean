/-
  contract: contracts and bales in memory; what Check, Fits and the costs are, in plain Lean.
-/
import Derived.Test.YtnpdkpbecmpdbaaOwn
import Derived.Test.YtnpdkpbecmpdbaaRows
import Derived.Deep.DeepCutAuto
import Derived.Deep.CutBlock
import Derived.Deep.LoopGhost
import Derived.IntWalk
set_option linter.unusedVariables false
set_option linter.unusedSimpArgs false
namespace Go.Proofs.Ytnpdkpbecmpdbaa
open Go.RowKit

/-- A contract. -/
structure Ctr where
  i : Int
  m : Int
  g : Int
  w : Int
  s : Int
  p : Int
  q : Int
def Ctr.zero : Ctr := ⟨0, 0, 0, 0, 0, 0, 0⟩
def cx (l : List Ctr) (k : Nat) : Ctr := l.getD k Ctr.zero
theorem cx_eq {l : List Ctr} {k : Nat} (h : k < l.length) : cx l k = l[k] := by simp [cx, h]

def NumC (x : Ctr) : Prop := 1 ≤ x.w ∧ x.w ≤ 1073741824 ∧ 0 ≤ x.s ∧ x.s ≤ x.w ∧ 0 ≤ x.p ∧ x.p ≤ 1000000 ∧ 0 ≤ x.q ∧ x.q ≤ 1000000
instance (x : Ctr) : Decidable (NumC x) := by unfold NumC; infer_instance
def numC (x : Ctr) : Bool := decide (NumC x)
theorem numC_true {x : Ctr} : numC x = true ↔ NumC x := by unfold numC; simp
theorem numC_of {x : Ctr} (h : NumC x) : numC x = true := numC_true.2 h
theorem numC_no {x : Ctr} (h : ¬ NumC x) : numC x = false := by
  cases hb : numC x
  · rfl
  · exact absurd (numC_true.1 hb) h
/-- What is missing. -/
def missC (x : Ctr) (n : Int) : Int := max (x.w - x.s - n) 0

/-- Seven cells hold a contract. -/
def CtrAt (w : World) (b o : Nat) (x : Ctr) : Prop :=
  w.cell? ⟨b, o, none⟩ = some (.int .i64 x.i) ∧ w.cell? ⟨b, o + 1, none⟩ = some (.int .i64 x.m) ∧ w.cell? ⟨b, o + 2, none⟩ = some (.int .i64 x.g) ∧ w.cell? ⟨b, o + 3, none⟩ = some (.int .i64 x.w) ∧
  w.cell? ⟨b, o + 4, none⟩ = some (.int .i64 x.s) ∧ w.cell? ⟨b, o + 5, none⟩ = some (.int .i64 x.p) ∧ w.cell? ⟨b, o + 6, none⟩ = some (.int .i64 x.q)
theorem CtrAt.mod {w w' : World} {b o : Nat} {x : Ctr} {D : Nat → Prop} (h : CtrAt w b o x) (m : Mod D w w') (hb : ¬ D b) : CtrAt w' b o x := by
  obtain ⟨h0, h1, h2, h3, h4, h5, h6⟩ := h
  exact ⟨m.cell h0 hb, m.cell h1 hb, m.cell h2 hb, m.cell h3 hb, m.cell h4 hb, m.cell h5 hb, m.cell h6 hb⟩
/-- The contracts l lie at the address a. -/
def Ctrs (D : Nat → Prop) (w : World) (a : Option Addr) (l : List Ctr) : Prop :=
  l.length ≤ maxLen ∧ (l ≠ [] → ∃ b off, a = some ⟨b, off, none⟩ ∧ D b ∧ ∀ k, k < l.length → CtrAt w b (off + k * 7) (cx l k))

/-- A bale. -/
structure Bal where
  id : Int
  mat : Int
  tm : Int
  mix : List Int
def Bal.zero : Bal := ⟨0, 0, 0, []⟩
def bx (l : List Bal) (k : Nat) : Bal := l.getD k Bal.zero
theorem bx_eq {l : List Bal} {k : Nat} (h : k < l.length) : bx l k = l[k] := by simp [bx, h]
/-- Four cells hold a bale, whose mix lies elsewhere. -/
def BalAt (D : Nat → Prop) (w : World) (b o : Nat) (y : Bal) : Prop :=
  ∃ a' c', w.cell? ⟨b, o, none⟩ = some (.int .i64 y.id) ∧ w.cell? ⟨b, o + 1, none⟩ = some (.int .i64 y.mat) ∧ w.cell? ⟨b, o + 2, none⟩ = some (.int .i64 y.tm) ∧ w.cell? ⟨b, o + 3, none⟩ = some (.slice a' y.mix.length c') ∧ Ints D w a' y.mix
def Bals (D : Nat → Prop) (w : World) (a : Option Addr) (l : List Bal) : Prop :=
  l.length ≤ maxLen ∧ (l ≠ [] → ∃ b off, a = some ⟨b, off, none⟩ ∧ D b ∧ ∀ k, k < l.length → BalAt D w b (off + k * 4) (bx l k))

section
variable {D : Nat → Prop} {w w' : World} {a : Option Addr} {l : List Ctr} {y : List Bal}
theorem Ctrs.nil (D : Nat → Prop) (w : World) (a : Option Addr) : Ctrs D w a [] := ⟨by simp [maxLen], fun h => absurd rfl h⟩
theorem Ctrs.frame (h : Ctrs D w a l) (m : Mod NoBlock w w') : Ctrs D w' a l :=
  ⟨h.1, fun hx => by
    obtain ⟨b, off, ha, hD, hc⟩ := h.2 hx
    exact ⟨b, off, ha, hD, fun k hk => (hc k hk).mod m id⟩⟩
theorem Ctrs.open (h : Ctrs D w a l) : l.length ≤ 9223372036854775807 ∧ ∃ b off, (l ≠ [] → a = some ⟨b, off, none⟩) ∧ ∀ k, k < l.length → CtrAt w b (off + k * 7) (cx l k) := by
  refine ⟨h.1, ?_⟩
  by_cases hx : l = []
  · subst hx; exact ⟨0, 0, fun h => absurd rfl h, fun k hk => absurd hk (by simp)⟩
  · obtain ⟨b, off, ha, _, hc⟩ := h.2 hx
    exact ⟨b, off, fun _ => ha, hc⟩
theorem Bals.nil (D : Nat → Prop) (w : World) (a : Option Addr) : Bals D w a [] := ⟨by simp [maxLen], fun h => absurd rfl h⟩
theorem BalAt.frame {b o : Nat} {y : Bal} (h : BalAt D w b o y) (m : Mod NoBlock w w') : BalAt D w' b o y := by
  obtain ⟨a', c', h0, h1, h2, h3, h4⟩ := h
  exact ⟨a', c', m.cell h0 id, m.cell h1 id, m.cell h2 id, m.cell h3 id, h4.frame m⟩
theorem Bals.frame (h : Bals D w a y) (m : Mod NoBlock w w') : Bals D w' a y :=
  ⟨h.1, fun hx => by
    obtain ⟨b, off, ha, hD, hc⟩ := h.2 hx
    exact ⟨b, off, ha, hD, fun k hk => (hc k hk).frame m⟩⟩
theorem Bals.open (h : Bals D w a y) : y.length ≤ 9223372036854775807 ∧ ∃ b off, (y ≠ [] → a = some ⟨b, off, none⟩) ∧ ∀ k, k < y.length → BalAt D w b (off + k * 4) (bx y k) := by
  refine ⟨h.1, ?_⟩
  by_cases hx : y = []
  · subst hx; exact ⟨0, 0, fun h => absurd rfl h, fun k hk => absurd hk (by simp)⟩
  · obtain ⟨b, off, ha, _, hc⟩ := h.2 hx
    exact ⟨b, off, fun _ => ha, hc⟩
end

/-- The error of a contract. -/
def ctrE (n : Int) (x : Ctr) : Int := if x.i < 1 ∨ 1000000 < x.i then 1 else if x.m < 0 ∨ 16 ≤ x.m then 21 else if x.g < 0 ∨ n ≤ x.g then 7 else if numC x = false then 1 else 0
def ctrsE (n : Int) : List Ctr → Int
  | [] => 0
  | x :: t => if ctrE n x = 0 then ctrsE n t else ctrE n x
theorem ctrsE_at {n : Int} : ∀ {l : List Ctr} {q : Nat}, q < l.length → (∀ i, i < q → ctrE n (cx l i) = 0) → ctrE n (cx l q) ≠ 0 → ctrsE n l = ctrE n (cx l q)
  | [], q, hq, _, _ => absurd hq (Nat.not_lt_zero q)
  | x :: t, 0, _, _, he => if_neg he
  | x :: t, q + 1, hq, h, he => by
    show (if ctrE n x = 0 then ctrsE n t else _) = _
    rw [if_pos (show ctrE n x = 0 from h 0 (by omega))]
    exact ctrsE_at (by simpa using hq) (fun i hi => h (i + 1) (by omega)) he
theorem ctrsE_all {n : Int} : ∀ {l : List Ctr}, (∀ i, i < l.length → ctrE n (cx l i) = 0) → ctrsE n l = 0
  | [], _ => rfl
  | x :: t, h => by
    show (if ctrE n x = 0 then ctrsE n t else _) = _
    rw [if_pos (show ctrE n x = 0 from h 0 (by simp))]
    exact ctrsE_all fun i hi => h (i + 1) (by simpa using hi)
theorem ctrsE_ok {n : Int} : ∀ {l : List Ctr}, ctrsE n l = 0 → ∀ i, i < l.length → ctrE n (cx l i) = 0
  | [], _, i, hi => absurd hi (Nat.not_lt_zero i)
  | x :: t, h, i, hi => by
    have h : (if ctrE n x = 0 then ctrsE n t else ctrE n x) = 0 := h
    by_cases hr : ctrE n x = 0
    · rw [if_pos hr] at h
      cases i with
      | zero => exact hr
      | succ i => exact ctrsE_ok h i (by simpa using hi)
    · rw [if_neg hr] at h; exact absurd h hr
/-- Two contracts have the same number. -/
def Dup (l : List Ctr) : Prop := ∃ i j, j < i ∧ i < l.length ∧ (cx l i).i = (cx l j).i
open Classical in
noncomputable def chkC (l : List Ctr) (n : Int) : Int := if 16 < l.length then 8 else if ctrsE n l ≠ 0 then ctrsE n l else if Dup l then 6 else 0
theorem chkC_full {l : List Ctr} {n : Int} (h : 16 < l.length) : chkC l n = 8 := if_pos h
theorem chkC_at {l : List Ctr} {n : Int} (h : ¬ 16 < l.length) {q : Nat} (hq : q < l.length) (hp : ∀ i, i < q → ctrE n (cx l i) = 0) {e : Int} (he : ctrE n (cx l q) = e) (he0 : e ≠ 0) : chkC l n = e := by
  have h3 := ctrsE_at hq hp (by rw [he]; exact he0)
  unfold chkC
  rw [if_neg h, if_pos (by rw [h3, he]; exact he0), h3, he]
theorem chkC_dup {l : List Ctr} {n : Int} (h : ¬ 16 < l.length) (hp : ∀ i, i < l.length → ctrE n (cx l i) = 0) (hd : Dup l) : chkC l n = 6 := by
  unfold chkC
  rw [if_neg h, if_neg (by rw [ctrsE_all hp]; decide), if_pos hd]
theorem chkC_ok {l : List Ctr} {n : Int} (h : ¬ 16 < l.length) (hp : ∀ i, i < l.length → ctrE n (cx l i) = 0) (hd : ¬ Dup l) : chkC l n = 0 := by
  unfold chkC
  rw [if_neg h, if_neg (by rw [ctrsE_all hp]; decide), if_neg hd]
theorem chkC_facts {l : List Ctr} {n : Int} (h : chkC l n = 0) : l.length ≤ 16 ∧ (∀ i, i < l.length → ctrE n (cx l i) = 0) ∧ ¬ Dup l := by
  unfold chkC at h
  by_cases h1 : 16 < l.length
  · rw [if_pos h1] at h; cases h
  rw [if_neg h1] at h
  by_cases h2 : ctrsE n l ≠ 0
  · rw [if_pos h2] at h; exact absurd h h2
  rw [if_neg h2] at h
  by_cases h3 : Dup l
  · rw [if_pos h3] at h; cases h
  · exact ⟨by omega, ctrsE_ok (by omega), h3⟩
theorem ctrE_ok {n : Int} {x : Ctr} (h : ctrE n x = 0) : NumC x ∧ 0 ≤ x.m ∧ x.m < 16 ∧ 0 ≤ x.g ∧ x.g < n ∧ 1 ≤ x.i ∧ x.i ≤ 1000000 := by
  unfold ctrE at h
  by_cases h1 : x.i < 1 ∨ 1000000 < x.i
  · rw [if_pos h1] at h; cases h
  rw [if_neg h1] at h
  by_cases h2 : x.m < 0 ∨ 16 ≤ x.m
  · rw [if_pos h2] at h; cases h
  rw [if_neg h2] at h
  by_cases h3 : x.g < 0 ∨ n ≤ x.g
  · rw [if_pos h3] at h; cases h
  rw [if_neg h3] at h
  by_cases h4 : numC x = false
  · rw [if_pos h4] at h; cases h
  · exact ⟨numC_true.1 (by simpa using h4), by omega, by omega, by omega, by omega, by omega, by omega⟩

end Go.Proofs.Ytnpdkpbecmpdbaa
