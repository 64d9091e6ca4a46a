/-
  match: bounds of the potentials, the way back along a path, rows done.
-/
import Derived.Test.YtnpdkpbecmpdbaaHb
set_option linter.unusedVariables false
set_option linter.unusedSimpArgs false
namespace Go.Proofs.Ytnpdkpbecmpdbaa
open Go.RowKit

def far : Int := 1099511627776

/-- Costs of n rows and K columns, counted from 1. -/
def CostOk (c : Nat → Nat → Int) (n K : Nat) : Prop := ∀ r, 1 ≤ r → r ≤ n → ∀ j, 1 ≤ j → j ≤ K → 0 ≤ c r j ∧ c r j ≤ far

theorem Pot.uLe {c : Nat → Nat → Int} {n K : Nat} {row : Nat → Nat} {u v : Nat → Int} (h : Pot c n K row u v) (hc : CostOk c n K) {f : Nat} (f1 : 1 ≤ f) (fK : f ≤ K) (ff : row f = 0) {r : Nat} (r1 : 1 ≤ r) (rn : r ≤ n) : 0 ≤ u r ∧ u r ≤ far := by
  have h1 := h.feas r r1 rn f f1 fK
  have h2 := h.vfree f f1 fK ff
  have h3 := (hc r r1 rn f f1 fK).2
  have h4 := h.u0 r
  unfold redC at h1
  omega
theorem Pot.vLe {c : Nat → Nat → Int} {n K : Nat} {row : Nat → Nat} {u v : Nat → Int} (h : Pot c n K row u v) (hc : CostOk c n K) (hr : ∀ j, 1 ≤ j → j ≤ K → row j ≤ n) {f : Nat} (f1 : 1 ≤ f) (fK : f ≤ K) (ff : row f = 0) {j : Nat} (j1 : 1 ≤ j) (jK : j ≤ K) : -far ≤ v j ∧ v j ≤ 0 := by
  have h5 := h.v0 j j1 jK
  by_cases hj : row j = 0
  · have := h.vfree j j1 jK hj
    simp only [far]; omega
  · have h1 := h.tight j j1 jK hj
    have h2 := h.uLe hc f1 fK ff (r := row j) (by omega) (hr j j1 jK)
    have h3 := (hc (row j) (by omega) (hr j j1 jK) j j1 jK).1
    unfold redC at h1
    omega
theorem Pot.redLe {c : Nat → Nat → Int} {n K : Nat} {row : Nat → Nat} {u v : Nat → Int} (h : Pot c n K row u v) (hc : CostOk c n K) (hr : ∀ j, 1 ≤ j → j ≤ K → row j ≤ n) {f : Nat} (f1 : 1 ≤ f) (fK : f ≤ K) (ff : row f = 0) {r : Nat} (r1 : 1 ≤ r) (rn : r ≤ n) {j : Nat} (j1 : 1 ≤ j) (jK : j ≤ K) : redC c u v r j ≤ 2199023255552 := by
  have h1 := h.uLe hc f1 fK ff r1 rn
  have h2 := h.vLe hc hr f1 fK ff j1 jK
  have h3 := (hc r r1 rn j j1 jK).2
  unfold redC
  simp only [far] at *
  omega

/-- Rows 1 .. i have columns. -/
structure HD (c : Nat → Nat → Int) (n K i : Nat) (row : Nat → Nat) (u v : Nat → Int) : Prop where
  pot : Pot c n K row u v
  le : ∀ j, 1 ≤ j → j ≤ K → row j ≤ i
  inj : ∀ j j', 1 ≤ j → j ≤ K → 1 ≤ j' → j' ≤ K → row j ≠ 0 → row j = row j' → j = j'
  cov : ∀ r, 1 ≤ r → r ≤ i → ∃ j, 1 ≤ j ∧ j ≤ K ∧ row j = r
  vz : -(far * (i : Int)) ≤ v 0 ∧ v 0 ≤ far * (i : Int)

theorem HD.zero {c : Nat → Nat → Int} {n K : Nat} (hc : CostOk c n K) : HD c n K 0 (fun _ => 0) (fun _ => 0) (fun _ => 0) := by
  refine ⟨⟨fun r r1 rn j j1 jK => ?_, fun j _ _ h => absurd rfl h, fun _ _ _ => Int.le_refl _, fun _ _ _ _ => rfl, fun _ => Int.le_refl _⟩, fun _ _ _ => Nat.le_refl _, fun j j' _ _ _ _ h => absurd rfl h, fun r h1 h2 => absurd h2 (by omega), by simp⟩
  have := (hc r r1 rn j j1 jK).1
  show 0 ≤ c r j - 0 - 0
  omega

/-- More columns than numbers. -/
theorem pigeon : ∀ (m : Nat) (f : Nat → Nat), (∀ j, j < m + 1 → f j < m) → ∃ j j', j < j' ∧ j' < m + 1 ∧ f j = f j' := by
  intro m
  induction m with
  | zero => intro f h; exact absurd (h 0 (by omega)) (by omega)
  | succ m ih =>
    intro f h
    by_cases hx : ∃ j, j < m + 1 ∧ f j = f (m + 1)
    · obtain ⟨j, h1, h2⟩ := hx
      exact ⟨j, m + 1, h1, by omega, h2⟩
    · obtain ⟨j, j', h1, h2, h3⟩ := ih (fun j => if f j = m then f (m + 1) else f j) (fun j hj => by
        have h4 := h j (by omega)
        have h5 := h (m + 1) (by omega)
        have h6 : f j ≠ f (m + 1) := fun e => hx ⟨j, hj, e⟩
        show (if f j = m then f (m + 1) else f j) < m
        split <;> omega)
      refine ⟨j, j', h1, by omega, ?_⟩
      have h3 : (if f j = m then f (m + 1) else f j) = (if f j' = m then f (m + 1) else f j') := h3
      have h6 : f j ≠ f (m + 1) := fun e => hx ⟨j, by omega, e⟩
      have h7 : f j' ≠ f (m + 1) := fun e => hx ⟨j', by omega, e⟩
      split at h3 <;> split at h3 <;> omega

theorem HD.free {c : Nat → Nat → Int} {n K i : Nat} {row : Nat → Nat} {u v : Nat → Int} (h : HD c n K i row u v) (hi : i < K) : ∃ f, 1 ≤ f ∧ f ≤ K ∧ row f = 0 := by
  by_cases hx : ∃ f, 1 ≤ f ∧ f ≤ K ∧ row f = 0
  · exact hx
  · exfalso
    obtain ⟨j, j', h1, h2, h3⟩ := pigeon i (fun j => row (j + 1) - 1) (fun j hj => by
      have h4 := h.le (j + 1) (by omega) (by omega)
      have h5 : row (j + 1) ≠ 0 := fun e => hx ⟨j + 1, by omega, by omega, e⟩
      show row (j + 1) - 1 < i
      omega)
    have h3 : row (j + 1) - 1 = row (j' + 1) - 1 := h3
    have h5 : row (j + 1) ≠ 0 := fun e => hx ⟨j + 1, by omega, by omega, e⟩
    have h6 : row (j' + 1) ≠ 0 := fun e => hx ⟨j' + 1, by omega, by omega, e⟩
    have := h.inj (j + 1) (j' + 1) (by omega) (by omega) (by omega) (by omega) h5 (by omega)
    omega

/-- The row i + 1 at the root. -/
def rootAt (row : Nat → Nat) (i : Nat) : Nat → Nat := fun j => if j = 0 then i else row j

theorem HD.rowOk {c : Nat → Nat → Int} {n K i : Nat} {row : Nat → Nat} {u v : Nat → Int} (h : HD c n K i row u v) (hi : i < n) : RowOk n K (rootAt row (i + 1)) := by
  refine ⟨fun j jK => ?_, fun j j' jK jK' h0 he => ?_⟩
  · unfold rootAt
    split
    · omega
    · have := h.le j (by omega) jK; omega
  · unfold rootAt at h0 he
    by_cases hj : j = 0
    · by_cases hj' : j' = 0
      · omega
      · rw [if_pos hj, if_neg hj'] at he
        have := h.le j' (by omega) jK'
        omega
    · by_cases hj' : j' = 0
      · rw [if_neg hj, if_pos hj'] at he
        have := h.le j (by omega) jK
        omega
      · rw [if_neg hj] at h0
        rw [if_neg hj, if_neg hj'] at he
        exact h.inj j j' (by omega) jK (by omega) jK' h0 he
theorem Pot.root {c : Nat → Nat → Int} {n K i : Nat} {row : Nat → Nat} {u v : Nat → Int} (h : Pot c n K row u v) : Pot c n K (rootAt row i) u v := by
  have e : ∀ j, 1 ≤ j → rootAt row i j = row j := fun j hj => if_neg (by omega)
  exact ⟨h.feas, fun j j1 jK h0 => by rw [e j j1] at h0 ⊢; exact h.tight j j1 jK h0, h.v0, fun j j1 jK h0 => by rw [e j j1] at h0; exact h.vfree j j1 jK h0, h.u0⟩

theorem HD.start {c : Nat → Nat → Int} {n K i : Nat} {row : Nat → Nat} {u v : Nat → Int} {inf : Int} (h : HD c n K i row u v) (hi : i < n) (fr : Nat → Nat) :
    PI c n K inf (rootAt row (i + 1)) (v 0 + u (i + 1)) 0 { u := u, v := v, sl := fun _ => inf, fr := fr, us := fun _ => false, at_ := 0 } := by
  refine ⟨h.pot.root, fun j hj => ?_, rfl, Nat.zero_le _, fun _ => ⟨rfl, fun _ => rfl⟩, fun j hj => ?_, fun k hk => ?_, fun hk => ?_, fun j hj0 hj => ?_, ⟨fun _ => 0, fun j hj => ?_, fun j _ hj => ?_⟩, ?_, rfl⟩
  · cases hj
  · cases hj
  · cases hk
  · cases hk
  · rcases hj with hj | hj
    · cases hj
    · exact absurd hj hj0
  · cases hj
  · cases hj
  · show cnt (fun _ => false) (K + 1) = 0
    induction (K + 1) with
    | zero => rfl
    | succ k ih => unfold cnt; rw [ih]; rfl

/-- The way back: the columns behind the hole carry rows anew. -/
structure Aug (c : Nat → Nat → Int) (n K i : Nat) (u v : Nat → Int) (row0 : Nat → Nat) (fr : Nat → Nat) (us : Nat → Bool) (rk : Nat → Nat) (row : Nat → Nat) (h : Nat) : Prop where
  hK : h ≤ K
  us0 : h ≠ 0 → us (fr h) = true ∧ redC c u v (row0 (fr h)) h = 0 ∧ rk (fr h) < rk h
  same : ∀ j, us j = true → rk j ≤ rk h → row j = row0 j
  tight : ∀ j, 1 ≤ j → j ≤ K → j ≠ h → row j ≠ 0 → redC c u v (row j) j = 0
  le : ∀ j, j ≤ K → row j ≤ i
  inj : ∀ j j', j ≤ K → j' ≤ K → j ≠ h → j' ≠ h → row j ≠ 0 → row j = row j' → j = j'
  cov : ∀ r, 1 ≤ r → r ≤ i → ∃ j, j ≤ K ∧ j ≠ h ∧ row j = r
  free : ∀ j, 1 ≤ j → j ≤ K → j ≠ h → row j = 0 → v j = 0

/-- One step of the way back. -/
def shift (row fr : Nat → Nat) (h : Nat) : Nat → Nat := fun j => if j = h then row (fr h) else row j

theorem Aug.step {c : Nat → Nat → Int} {n K i : Nat} {u v : Nat → Int} {row0 fr : Nat → Nat} {us : Nat → Bool} {rk row : Nat → Nat} {h : Nat} (a : Aug c n K i u v row0 fr us rk row h)
    (hu : ∀ j, us j = true → j ≤ K ∧ row0 j ≠ 0) (he : ∀ j, j ≠ 0 → us j = true → us (fr j) = true ∧ redC c u v (row0 (fr j)) j = 0 ∧ rk (fr j) < rk j) (h0 : h ≠ 0) :
    Aug c n K i u v row0 fr us rk (shift row fr h) (fr h) ∧ rk (fr h) < rk h ∧ fr h ≠ h := by
  obtain ⟨e1, e2, e3⟩ := a.us0 h0
  obtain ⟨k1, k2⟩ := hu _ e1
  have hs := a.same _ e1 (by omega)
  have hne : fr h ≠ h := fun e => by rw [e] at e3; omega
  have sh : shift row fr h h = row (fr h) := if_pos rfl
  have so : ∀ j, j ≠ h → shift row fr h j = row j := fun j hj => if_neg hj
  refine ⟨⟨k1, fun hf => he _ hf e1, fun j hj hr => ?_, fun j j1 jK hj hr => ?_, fun j jK => ?_, fun j j' jK jK' hj hj' hr hrr => ?_, fun r r1 ri => ?_, fun j j1 jK hj hr => ?_⟩, e3, hne⟩
  · by_cases hjh : j = h
    · subst hjh; omega
    · rw [so j hjh]; exact a.same j hj (by omega)
  · by_cases hjh : j = h
    · subst hjh; rw [sh, hs]; exact e2
    · rw [so j hjh] at hr ⊢; exact a.tight j j1 jK hjh hr
  · by_cases hjh : j = h
    · subst hjh; rw [sh]; exact a.le _ k1
    · rw [so j hjh]; exact a.le j jK
  · by_cases hjh : j = h
    · by_cases hjh' : j' = h
      · omega
      · subst hjh
        rw [sh] at hr hrr
        rw [so j' hjh'] at hrr
        have := a.inj _ _ k1 jK' hne hjh' hr hrr
        omega
    · by_cases hjh' : j' = h
      · subst hjh'
        rw [so j hjh] at hr hrr
        rw [sh] at hrr
        have := a.inj _ _ jK k1 hjh hne hr hrr
        omega
      · rw [so j hjh] at hr hrr
        rw [so j' hjh'] at hrr
        exact a.inj _ _ jK jK' hjh hjh' hr hrr
  · obtain ⟨j, g1, g2, g3⟩ := a.cov r r1 ri
    by_cases hjf : j = fr h
    · exact ⟨h, a.hK, fun e => hne e.symm, by rw [sh, ← hjf]; exact g3⟩
    · exact ⟨j, g1, hjf, by rw [so j g2]; exact g3⟩
  · by_cases hjh : j = h
    · subst hjh; rw [sh, hs] at hr; exact absurd hr k2
    · rw [so j hjh] at hr; exact a.free j j1 jK hjh hr

/-- The path is found: the way back can begin. -/
theorem PI.found {c : Nat → Nat → Int} {n K i : Nat} {row : Nat → Nat} {u v : Nat → Int} {inf : Int} {z : Int} {t : Nat} {s : PS} (hd : HD c n K i row u v) (hi : i < n) (h : PI c n K inf (rootAt row (i + 1)) z t s) (hat : rootAt row (i + 1) s.at_ = 0) :
    ∃ rk : Nat → Nat, Aug c n K (i + 1) s.u s.v (rootAt row (i + 1)) s.fr s.us rk (rootAt row (i + 1)) s.at_ ∧ rk s.at_ = t ∧
      (∀ j, s.us j = true → j ≤ K ∧ rootAt row (i + 1) j ≠ 0) ∧ ∀ j, j ≠ 0 → s.us j = true → s.us (s.fr j) = true ∧ redC c s.u s.v (rootAt row (i + 1) (s.fr j)) j = 0 ∧ rk (s.fr j) < rk j := by
  obtain ⟨rk, k1, k2⟩ := h.rank
  have hr := hd.rowOk hi
  have hne : ∀ j, s.us j = true → j ≠ s.at_ := fun j hj e => by rw [e, h.atN] at hj; cases hj
  have hrk : ∀ j, s.us j = true → (if j = s.at_ then t else rk j) = rk j := fun j hj => if_neg (hne j hj)
  refine ⟨fun j => if j = s.at_ then t else rk j, ⟨h.atK, fun h0 => ?_, fun j _ _ => rfl, fun j j1 jK _ h0 => h.pot.tight j j1 jK h0, fun j jK => ?_, fun j j' jK jK' _ _ h0 he => hr.inj j j' jK jK' h0 he, fun r r1 ri => ?_, fun j j1 jK _ h0 => h.pot.vfree j j1 jK h0⟩, if_pos rfl, h.used, fun j hj0 hj => ?_⟩
  · obtain ⟨g1, g2⟩ := h.edge _ h0 (.inr rfl)
    refine ⟨g1, g2, ?_⟩
    show (if s.fr s.at_ = s.at_ then t else rk (s.fr s.at_)) < (if s.at_ = s.at_ then t else rk s.at_)
    rw [hrk _ g1, if_pos rfl]; exact k1 _ g1
  · unfold rootAt
    split
    · omega
    · have := hd.le j (by omega) jK; omega
  · by_cases hri : r = i + 1
    · refine ⟨0, Nat.zero_le _, fun e => ?_, by rw [hri]; rfl⟩
      rw [← e] at hat
      exact absurd hat (by show ¬ (if (0 : Nat) = 0 then i + 1 else row 0) = 0; simp)
    · obtain ⟨j, g1, g2, g3⟩ := hd.cov r r1 (by omega)
      have e : rootAt row (i + 1) j = row j := if_neg (by omega)
      exact ⟨j, g2, fun e2 => by rw [← e2, e] at hat; omega, by rw [e]; exact g3⟩
  · obtain ⟨g1, g2⟩ := h.edge j hj0 (.inl hj)
    refine ⟨g1, g2, ?_⟩
    show (if s.fr j = s.at_ then t else rk (s.fr j)) < (if j = s.at_ then t else rk j)
    rw [hrk _ g1, hrk _ hj]; exact k2 j hj0 hj

/-- The way back is done. -/
theorem Aug.done {c : Nat → Nat → Int} {n K i : Nat} {u v : Nat → Int} {row0 fr : Nat → Nat} {us : Nat → Bool} {rk row : Nat → Nat} (a : Aug c n K i u v row0 fr us rk row 0) {row1 : Nat → Nat}
    (hp : Pot c n K row0 u v) (hz : -(far * (i : Int)) ≤ v 0 ∧ v 0 ≤ far * (i : Int)) (hrow : ∀ j, 1 ≤ j → row1 j = row j) : HD c n K i row1 u v := by
  refine ⟨⟨hp.feas, fun j j1 jK h0 => ?_, hp.v0, fun j j1 jK h0 => ?_, hp.u0⟩, fun j j1 jK => ?_, fun j j' j1 jK j1' jK' h0 he => ?_, fun r r1 ri => ?_, hz⟩
  · rw [hrow j j1] at h0 ⊢; exact a.tight j j1 jK (by omega) h0
  · rw [hrow j j1] at h0; exact a.free j j1 jK (by omega) h0
  · rw [hrow j j1]; exact a.le j jK
  · rw [hrow j j1] at h0 he; rw [hrow j' j1'] at he
    exact a.inj j j' jK jK' (by omega) (by omega) h0 he
  · obtain ⟨j, g1, g2, g3⟩ := a.cov r r1 ri
    exact ⟨j, by omega, g1, by rw [hrow j (by omega)]; exact g3⟩

end Go.Proofs.Ytnpdkpbecmpdbaa
