/-
  match: the cost of an assignment.
-/
import Derived.Test.YtddjkmaigifomaaMa
set_option linter.unusedVariables false
set_option linter.unusedSimpArgs false
namespace Go.Proofs.Ytddjkmaigifomaa
open Go.RowKit

/-- The first error of the first n. -/
def firstE (f : Nat → Int) : Nat → Int
  | 0 => 0
  | n + 1 => if firstE f n = 0 then f n else firstE f n
theorem firstE_all {f : Nat → Int} {n : Nat} (h : ∀ i, i < n → f i = 0) : firstE f n = 0 := by
  induction n with
  | zero => rfl
  | succ n ih => show (if _ then _ else _) = _; rw [if_pos (ih fun i hi => h i (by omega))]; exact h n (by omega)
theorem firstE_at {f : Nat → Int} {n q : Nat} {e : Int} (hq : q < n) (h : ∀ i, i < q → f i = 0) (he : f q = e) (h0 : e ≠ 0) : firstE f n = e := by
  induction n with
  | zero => omega
  | succ n ih =>
    show (if _ then _ else _) = _
    by_cases hqn : q = n
    · subst hqn; rw [if_pos (firstE_all h), he]
    · have := ih (by omega)
      rw [if_neg (by rw [this]; exact h0), this]
theorem firstE_ok {f : Nat → Int} {n : Nat} (h : firstE f n = 0) : ∀ i, i < n → f i = 0 := by
  induction n with
  | zero => intro i hi; omega
  | succ n ih =>
    have h : (if firstE f n = 0 then f n else firstE f n) = 0 := h
    intro i hi
    by_cases h1 : firstE f n = 0
    · rw [if_pos h1] at h
      by_cases hin : i = n
      · rw [hin]; exact h
      · exact ih h1 i (by omega)
    · rw [if_neg h1] at h; exact absurd h h1

/-- The column x is taken by one of the first q rows. -/
def tk (cols : List Int) (q : Nat) (x : Int) : Bool := (List.range q).any fun i => ix cols i == x
theorem tk_zero (cols : List Int) (x : Int) : tk cols 0 x = false := rfl
theorem tk_succ (cols : List Int) (q : Nat) (x : Int) : tk cols (q + 1) x = (tk cols q x || (ix cols q == x)) := by simp [tk, List.range_succ]
theorem tk_iff {cols : List Int} {q : Nat} {x : Int} : tk cols q x = true ↔ ∃ i, i < q ∧ ix cols i = x := by simp [tk]

/-- The fault of the row i. -/
def errV (k : Nat) (C : List (List Int)) (cols : List Int) (i : Nat) : Int :=
  if ix cols i < -1 ∨ (k : Int) ≤ ix cols i then 1 else if ix cols i = -1 then 0 else if tk cols i (ix cols i) then 6 else if ix (rx C i) (ix cols i).toNat = -1 then 7 else 0
/-- What the row i costs. -/
def costV (C : List (List Int)) (sk cols : List Int) (i : Nat) : Int := if ix cols i = -1 then ix sk i else ix (rx C i) (ix cols i).toNat
def valM (C : List (List Int)) (sk cols : List Int) : Int × Int :=
  if chkM C sk ≠ 0 then (0, chkM C sk) else if cols.length ≠ C.length then (0, 3) else if firstE (errV (rx C 0).length C cols) C.length ≠ 0 then (0, firstE (errV (rx C 0).length C cols) C.length) else (sumR C.length (costV C sk cols), 0)

theorem valM_chk {C : List (List Int)} {sk cols : List Int} (h : chkM C sk ≠ 0) : valM C sk cols = (0, chkM C sk) := if_pos h
theorem valM_form {C : List (List Int)} {sk cols : List Int} (h : chkM C sk = 0) (h2 : cols.length ≠ C.length) : valM C sk cols = (0, 3) := by unfold valM; rw [if_neg (by omega), if_pos h2]
theorem valM_err {C : List (List Int)} {sk cols : List Int} (h : chkM C sk = 0) (h2 : cols.length = C.length) {q : Nat} (hq : q < C.length) (hp : ∀ i, i < q → errV (rx C 0).length C cols i = 0) {e : Int} (he : errV (rx C 0).length C cols q = e) (h0 : e ≠ 0) : valM C sk cols = (0, e) := by
  have := firstE_at hq hp he h0
  unfold valM
  rw [if_neg (by omega), if_neg (by omega), if_pos (by rw [this]; exact h0), this]
theorem valM_ok {C : List (List Int)} {sk cols : List Int} (h : chkM C sk = 0) (h2 : cols.length = C.length) (hp : ∀ i, i < C.length → errV (rx C 0).length C cols i = 0) : valM C sk cols = (sumR C.length (costV C sk cols), 0) := by
  unfold valM
  rw [if_neg (by omega), if_neg (by omega), if_neg (by rw [firstE_all hp]; decide)]

theorem errV_range {k : Nat} {C : List (List Int)} {cols : List Int} {i : Nat} (h : ix cols i < -1 ∨ (k : Int) ≤ ix cols i) : errV k C cols i = 1 := if_pos h
theorem errV_none {k : Nat} {C : List (List Int)} {cols : List Int} {i : Nat} (h : ix cols i = -1) : errV k C cols i = 0 := by unfold errV; rw [if_neg (by omega), if_pos h]
theorem errV_twice {k x : Nat} {C : List (List Int)} {cols : List Int} {i : Nat} (h : ix cols i = x) (hx : x < k) (ht : tk cols i x = true) : errV k C cols i = 6 := by unfold errV; rw [if_neg (by omega), if_neg (by omega), h, if_pos ht]
theorem errV_no {k x : Nat} {C : List (List Int)} {cols : List Int} {i : Nat} (h : ix cols i = x) (hx : x < k) (ht : tk cols i x = false) (hc : ix (rx C i) x = -1) : errV k C cols i = 7 := by
  unfold errV; rw [if_neg (by omega), if_neg (by omega), h, if_neg (by rw [ht]; decide), if_pos (by rw [Int.toNat_natCast]; exact hc)]
theorem errV_good {k x : Nat} {C : List (List Int)} {cols : List Int} {i : Nat} (h : ix cols i = x) (hx : x < k) (ht : tk cols i x = false) (hc : ix (rx C i) x ≠ -1) : errV k C cols i = 0 := by
  unfold errV; rw [if_neg (by omega), if_neg (by omega), h, if_neg (by rw [ht]; decide), if_neg (by rw [Int.toNat_natCast]; exact hc)]
theorem costV_none {C : List (List Int)} {sk cols : List Int} {i : Nat} (h : ix cols i = -1) : costV C sk cols i = ix sk i := if_pos h
theorem costV_at {C : List (List Int)} {sk cols : List Int} {i x : Nat} (h : ix cols i = x) : costV C sk cols i = ix (rx C i) x := by unfold costV; rw [if_neg (by omega), h, Int.toNat_natCast]

/-- The cost is small. -/
theorem sumV_bound {C : List (List Int)} {sk cols : List Int} {n k : Nat} (hp : ProbOk C sk n k) : ∀ q, q ≤ n → (∀ i, i < q → errV k C cols i = 0) → 0 ≤ sumR q (costV C sk cols) ∧ sumR q (costV C sk cols) ≤ 1000000000 * (q : Int)
  | 0, _, _ => ⟨Int.le_refl _, by simp [sumR]⟩
  | q + 1, hq, he => by
    obtain ⟨h1, h2⟩ := sumV_bound hp q (by omega) (fun i hi => he i (by omega))
    have h3 : 0 ≤ costV C sk cols q ∧ costV C sk cols q ≤ 1000000000 := by
      by_cases hn : ix cols q = -1
      · rw [costV_none hn]; exact hp.skip q (by omega)
      · have h4 := he q (by omega)
        unfold errV at h4
        by_cases g1 : ix cols q < -1 ∨ (k : Int) ≤ ix cols q
        · rw [if_pos g1] at h4; cases h4
        rw [if_neg g1, if_neg hn] at h4
        split at h4
        · cases h4
        split at h4
        · cases h4
        next g3 =>
          unfold costV
          rw [if_neg hn]
          have := hp.cost q (by omega) (ix cols q).toNat (by omega)
          omega
    unfold sumR
    omega

set_option maxRecDepth 100000 in
set_option maxHeartbeats 6400000 in
theorem value_any {D E F : Nat → Prop} {w : World} {a b a3 : Option Addr} {c d c3 : Nat} {C : List (List Int)} {sk cols : List Int} (h : Mixes D w a C) (hs : Ints E w b sk) (hc : Ints F w a3 cols) :
    Calls Try.prog 18 #[.slice a C.length c, .slice b sk.length d, .slice a3 cols.length c3] w fun e w' => e = .returned (.tuple #[.int .i64 (valM C sk cols).1, .int .i64 (valM C sk cols).2]) ∧ Mod NoBlock w w' := by
  have HC := Lib.hid h
  have HS := Lib.hid hs
  have HF := Lib.hid hc
  have lC : C.length ≤ maxLen := h.1
  have lF : cols.length ≤ maxLen := hc.1
  simp only [maxLen] at lC lF
  have Hchk := Lib.hid (check_any (c := c) (d := d) h hs)
  clear h hs hc
  by_cases h1 : chkM C sk ≠ 0
  · have HE := Lib.hid (valM_chk (cols := cols) h1)
    have h1' : (chkM C sk != 0) = true := bne_iff_ne.2 h1
    clear h1
    go_enter Try.func18, Try.ntmps18
    go_wp2_with (go_at_call 11; refine Hchk.out.mono ?_; rintro e w1 ⟨rfl, rfl⟩)
    go_ret2
    exact ⟨by rw [HE.out] <;> rfl, Mod.refl _ _⟩
  have H1 : Hid (chkM C sk = 0) := Lib.hid (by omega)
  clear h1
  by_cases h2 : cols.length ≠ C.length
  · have HE := Lib.hid (valM_form H1.out h2)
    have h2' : ((cols.length : Int) != (C.length : Int)) = true := bne_iff_ne.2 (by omega)
    clear h2
    go_enter Try.func18, Try.ntmps18
    go_wp2_with (go_at_call 11; refine Hchk.out.mono ?_; rintro e w1 ⟨rfl, rfl⟩; rw [H1.out])
    go_ret2
    exact ⟨by rw [HE.out] <;> rfl, Mod.refl _ _⟩
  have H2 : Hid (cols.length = C.length) := Lib.hid (by omega)
  clear h2
  have HP := Lib.hid (probOk H1.out)
  have HV := Lib.hid (fun q hq hp e he h0 => valM_err (C := C) (sk := sk) (cols := cols) H1.out H2.out (q := q) hq hp (e := e) he h0)
  have HO := Lib.hid (valM_ok (C := C) (sk := sk) (cols := cols) H1.out H2.out)
  rw [HP.out.len, H2.out]
  rw [HP.out.len] at Hchk
  obtain ⟨n, hn⟩ : ∃ n, C.length = n := ⟨_, rfl⟩
  obtain ⟨k, hk⟩ : ∃ k, (rx C 0).length = k := ⟨_, rfl⟩
  rw [hn, hk] at HV HO HP
  rw [hn] at Hchk lC H2 ⊢
  have n24 := HP.out.n24
  have k24 := HP.out.k24
  have Hn := Lib.hid hn
  clear hn hk lF
  go_enter Try.func18, Try.ntmps18
  have hrow := (rowIs_new w #[.bool false, .bool false, .bool false, .bool false, .bool false, .bool false, .bool false, .bool false, .bool false, .bool false, .bool false, .bool false, .bool false, .bool false, .bool false, .bool false, .bool false, .bool false, .bool false, .bool false, .bool false, .bool false, .bool false, .bool false] 53).congr (g := fun _ => .bool false) (fun i hi => by
    have hi : i < 24 := hi
    rw [show (#[.bool false, .bool false, .bool false, .bool false, .bool false, .bool false, .bool false, .bool false, .bool false, .bool false, .bool false, .bool false, .bool false, .bool false, .bool false, .bool false, .bool false, .bool false, .bool false, .bool false, .bool false, .bool false, .bool false, .bool false] : Array Value) = Array.replicate 24 (.bool false) from rfl]
    simp [Array.getD, hi])
  have M0 := Lib.hid ((Mod.refl NoBlock w).alloc (.cells #[.bool false, .bool false, .bool false, .bool false, .bool false, .bool false, .bool false, .bool false, .bool false, .bool false, .bool false, .bool false, .bool false, .bool false, .bool false, .bool false, .bool false, .bool false, .bool false, .bool false, .bool false, .bool false, .bool false, .bool false] 53))
  have Hrow := Lib.hid hrow
  clear hrow
  go_upto_block 0 with (go_at_call 11; refine Hchk.out.mono ?_; rintro e w1 ⟨rfl, rfl⟩; rw [H1.out])
  generalize w.alloc (.cells #[.bool false, .bool false, .bool false, .bool false, .bool false, .bool false, .bool false, .bool false, .bool false, .bool false, .bool false, .bool false, .bool false, .bool false, .bool false, .bool false, .bool false, .bool false, .bool false, .bool false, .bool false, .bool false, .bool false, .bool false] 53) = w1 at Hrow M0 ⊢
  obtain ⟨S, hS⟩ : ∃ S, w.heap.size = S := ⟨_, rfl⟩
  rw [hS] at Hrow ⊢
  have HSz := Lib.hid hS
  clear hS
  go_wp2_with fail
  go_loopw [10, 26] (fun s i wr => ∃ q : Nat, q ≤ n ∧ i = .int .i64 q ∧ s = .int .i64 (sumR q (costV C sk cols)) ∧ (∀ i, i < q → errV k C cols i = 0) ∧ Mod NoBlock w wr ∧ wr.rowIs S 53 24 (fun x => .bool (tk cols q (x : Int)))) (fun _ i _ => n - (intOf i).toNat)
  case atStart => exact ⟨0, by omega, rfl, rfl, fun i hi => absurd hi (Nat.not_lt_zero i), M0.out, Hrow.out⟩
  case round =>
    clear M0 Hrow
    clear w1
    obtain ⟨q, hq, rfl, rfl, herr, hm, hrow⟩ := hrel
    have Herr := Lib.hid herr
    have M := Lib.hid hm
    have Hrow := Lib.hid hrow
    clear herr hm hrow
    obtain ⟨wo, rfl⟩ : ∃ wo : World, wo = wr := ⟨_, rfl⟩
    by_cases hlt : q < n
    · have q1 : (q : Int) < (n : Int) := by omega
      obtain ⟨_, b3, o3, ha3, hc3⟩ := (HF.out.frame M.out).open
      obtain rfl := ha3 (by intro e; have h9 := H2.out; rw [e] at h9; simp at h9; omega)
      have d3 := hc3 q (by rw [H2.out]; exact hlt)
      clear ha3 hc3
      obtain ⟨s0, s1⟩ := sumV_bound HP.out q hq Herr.out
      have Hcol := Lib.hid (columns_any (c := c) (HC.out.frame M.out) HP.out.rect HP.out.k0)
      obtain ⟨x, hx⟩ : ∃ x, ix cols q = x := ⟨_, rfl⟩
      rw [hx] at d3
      by_cases hr : x < -1 ∨ (k : Int) ≤ x
      · have HE := Lib.hid (HV.out q hlt Herr.out 1 (errV_range (by rw [hx]; exact hr)) (by decide))
        clear hx
        by_cases hr1 : x < -1
        · clear hr
          go_wp2_with (go_at_call 22; refine Hcol.out.mono ?_; rintro e w5 ⟨rfl, rfl⟩)
          go_ret2
          exact ⟨by rw [HE.out] <;> rfl, M.out⟩
        · have hr2 : (k : Int) ≤ x := by omega
          clear hr
          go_wp2_with (go_at_call 22; refine Hcol.out.mono ?_; rintro e w5 ⟨rfl, rfl⟩)
          go_ret2
          exact ⟨by rw [HE.out] <;> rfl, M.out⟩
      by_cases hx1 : x = -1
      · subst hx1
        obtain ⟨_, b4, o4, ha4, hc4⟩ := (HS.out.frame M.out).open
        obtain rfl := ha4 (by intro e; have h9 := HP.out.len; rw [e] at h9; simp at h9; omega)
        have d4 := hc4 q (by rw [HP.out.len]; exact hlt)
        have Hsum : Hid (sumR (q + 1) (costV C sk cols) = sumR q (costV C sk cols) + ix sk q) := Lib.hid (by show _ + costV C sk cols q = _; rw [costV_none hx])
        have Her : Hid (errV k C cols q = 0) := Lib.hid (errV_none hx)
        have Htk : Hid (∀ y : Nat, tk cols (q + 1) (y : Int) = tk cols q (y : Int)) := Lib.hid fun y => by rw [tk_succ, hx, show ((-1 : Int) == (y : Int)) = false by rw [beq_eq_false_iff_ne]; omega, Bool.or_false]
        obtain ⟨y0, y1⟩ := HP.out.skip q hlt
        have k2 : (0 : Int) ≤ (k : Int) := by omega
        clear hx ha4 hc4 hr
        generalize ix sk q = y at d4 Hsum y0 y1
        generalize sumR q (costV C sk cols) = z at s0 s1 Hsum ⊢
        go_wp2_with (go_at_call 22; refine Hcol.out.mono ?_; rintro e w5 ⟨rfl, rfl⟩)
        refine ⟨⟨q + 1, by omega, by go_num, by rw [Hsum.out], fun i hi => ?_, M.out, Hrow.out.congr fun y _ => by rw [Htk.out]⟩, by simp [intOf]; omega⟩
        by_cases e : i = q
        · rw [e]; exact Her.out
        · exact Herr.out i (by omega)
      obtain ⟨x, rfl⟩ : ∃ X : Nat, x = (X : Int) := ⟨x.toNat, by omega⟩
      have hxk : x < k := by omega
      have Hx := Lib.hid hx
      have x1 : (x : Int) < (k : Int) := by omega
      have x2 : (x : Int) < 24 := by omega
      have d5 : wo.cell? ⟨S, x, none⟩ = some (.bool (tk cols q (x : Int))) := Hrow.out.cell (by omega)
      have f5 := Hrow.out.frozen x
      clear hx hx1 hr
      by_cases ht : tk cols q (x : Int) = true
      · have HE := Lib.hid (HV.out q hlt Herr.out 6 (errV_twice Hx.out hxk ht) (by decide))
        rw [ht] at d5
        clear ht
        go_wp2_with (go_at_call 22; refine Hcol.out.mono ?_; rintro e w5 ⟨rfl, rfl⟩)
        go_ret2
        exact ⟨by rw [HE.out] <;> rfl, M.out⟩
      have ht : tk cols q (x : Int) = false := by simpa using ht
      rw [ht] at d5
      have Ht := Lib.hid ht
      clear ht
      obtain ⟨b4, o4, a4, c4, rfl, hD4, hc4w, hI4⟩ := HC.out.row (k := q) (by rw [Hn.out]; exact hlt)
      rw [HP.out.rect.2 q hlt] at hc4w
      have hc4 := M.out.cell hc4w id
      obtain ⟨_, b6, o6, ha6, hc6⟩ := hI4.open
      obtain rfl := ha6 (by intro e; have h9 := HP.out.rect.2 q hlt; rw [e] at h9; simp at h9; omega)
      have d6w := hc6 x (by rw [HP.out.rect.2 q hlt]; exact hxk)
      have d6 := M.out.cell d6w id
      have hcx := HP.out.cost q hlt x hxk
      obtain ⟨y, hy⟩ : ∃ y, ix (rx C q) x = y := ⟨_, rfl⟩
      rw [hy] at d6 hcx
      rw [hy] at d6w
      have D6 := Lib.hid d6w
      have C4 := Lib.hid hc4w
      clear d6w hc4w
      clear hD4 hI4 ha6 hc6
      by_cases hy1 : y = -1
      · subst hy1
        have HE := Lib.hid (HV.out q hlt Herr.out 7 (errV_no Hx.out hxk Ht.out hy) (by decide))
        clear hy
        go_wp2_with (go_at_call 22; refine Hcol.out.mono ?_; rintro e w5 ⟨rfl, rfl⟩)
        go_ret2
        exact ⟨by rw [HE.out] <;> rfl, M.out⟩
      have Her : Hid (errV k C cols q = 0) := Lib.hid (errV_good Hx.out hxk Ht.out (by rw [hy]; exact hy1))
      have Hsum : Hid (sumR (q + 1) (costV C sk cols) = sumR q (costV C sk cols) + y) := Lib.hid (by show _ + costV C sk cols q = _; rw [costV_at Hx.out, hy])
      have hyb : (y == -1) = false := beq_eq_false_iff_ne.2 hy1
      obtain ⟨y0, y1⟩ := hcx
      have y2 : 0 ≤ y := by omega
      clear hy hy1
      generalize sumR q (costV C sk cols) = z at s0 s1 Hsum ⊢
      have Hr2 := Lib.hid (set_row (k := x) (x := .bool true) (f' := fun y => Value.bool (tk cols (q + 1) (y : Int))) Hrow.out (fun _ => by rw [tk_succ, Hx.out]; simp) (fun j _ hj => by rw [tk_succ, Hx.out, show ((x : Int) == (j : Int)) = false by rw [beq_eq_false_iff_ne]; omega, Bool.or_false]))
      have hm2 := M.out.setCell (p := ⟨S, x, none⟩) (.inr (by have := HSz.out; show w.heap.size ≤ S; omega)) (.bool true)
      have M2 := Lib.hid hm2
      clear hm2
      go_upto_region 20 with (go_at_call 22; refine Hcol.out.mono ?_; rintro e w5 ⟨rfl, rfl⟩)
      generalize wo.setCell ⟨S, x, none⟩ (.bool true) = w2 at M2 Hr2 ⊢
      clear hc4 d6 d5 f5 d3
      have hc4 := M2.out.cell C4.out id
      have d6 := M2.out.cell D6.out id
      go_wp2_with fail
      refine ⟨⟨q + 1, by omega, by go_num, by rw [Hsum.out], fun i hi => ?_, M2.out, Hr2.out⟩, by simp [intOf]; omega⟩
      by_cases e : i = q
      · rw [e]; exact Her.out
      · exact Herr.out i (by omega)
    · obtain rfl : q = n := by omega
      have HE := Lib.hid (HO.out Herr.out)
      go_wp2_with fail
      go_ret2
      exact ⟨by rw [HE.out] <;> rfl, M.out⟩

end Go.Proofs.Ytddjkmaigifomaa
