/-
  match: the law MatchShifts walked.
-/
import Derived.Test.YtddjkmaigifomaaSc
import Derived.Deep.QuietTactic
import Derived.BigQuiet
import Derived.RegionTactic
import Derived.ChangeAlike
set_option linter.unusedVariables false
set_option linter.unusedSimpArgs false
namespace Go.Proofs.Ytddjkmaigifomaa
open Go.RowKit

theorem sumR_bounds {n : Nat} {f : Nat → Int} {B : Int} (h : ∀ i, i < n → 0 ≤ f i ∧ f i ≤ B) : 0 ≤ sumR n f ∧ sumR n f ≤ n * B := by
  induction n with
  | zero => simp [sumR]
  | succ n ih =>
    have h1 := ih fun i hi => h i (by omega)
    have h2 := h n (by omega)
    have e : ((n + 1 : Nat) : Int) * B = n * B + B := by rw [Int.natCast_add, Int.add_mul]; omega
    unfold sumR
    rw [e]
    omega
theorem Sol.bounds {C : List (List Int)} {sk cols U V : List Int} {n k : Nat} {t : Int} {wf : Nat → Nat} (h : Sol C sk n k t wf cols U V) (hp : ProbOk C sk n k) : 0 ≤ t ∧ t ≤ 100000000000000 := by
  have h1 : 0 ≤ sumR n (fun i => tabM C sk k i (wf i)) ∧ _ := sumR_bounds (B := far) fun i hi => (wide_ok hp).le i hi _ (h.first.asg.lt i hi)
  have h2 : sumR n (fun i => tabM C sk k i (wf i)) = t := h.first.cost
  rw [h2] at h1
  have := hp.n24
  simp only [far] at h1
  omega

theorem CP.hdrAt {W wr : World} {g c q K r : Nat} {T : Nat → Nat → Int} {ad : Nat → Option Addr} {rc : Nat → Nat} (h : CP W wr (some ⟨g, 0, none⟩) c q K T ad rc) (hr : r < q) : wr.cell? ⟨g, r, none⟩ = some (.slice (ad r) K (rc r)) := by
  obtain ⟨g', h0, h1, h2⟩ := h.hdr hr
  simp only [Option.some.injEq, Addr.mk.injEq, and_true] at h0
  subst h0
  exact h2 r hr

/-- The costs, shifted in the first j columns of row r. -/
def shT (C : List (List Int)) (r : Nat) (d : Int) (j i q : Nat) : Int := if i = r ∧ q < j ∧ 0 ≤ ix (rx C i) q then ix (rx C i) q + d else ix (rx C i) q
def shS (sk : List Int) (r : Nat) (d : Int) (i : Nat) : Int := if i = r then ix sk i + d else ix sk i

set_option maxRecDepth 100000 in
set_option maxHeartbeats 12800000 in
theorem matchShifts_out (a : Option Addr) (c : Nat) (C : List (List Int)) {w : World} (hx : Mixes Any w a C) (b : Option Addr) (d : Nat) (sk : List Int) (hs : Ints Any w b sk) (row dl : Int)
    (hno : ¬ (Lit C sk ∧ chkM C sk = 0 ∧ 0 ≤ row ∧ row < C.length ∧ 0 ≤ dl ∧ dl ≤ 1000000)) :
    Calls Try.prog 8 #[.slice a C.length c, .slice b sk.length d, .int .i64 row, .int .i64 dl] w fun e w' => e = .returned (.bool true) ∧ Mod NoBlock w w' := by
  have HC := Lib.hid hx
  have HS := Lib.hid hs
  clear hx hs
  by_cases hl : Lit C sk
  case neg =>
    have Hl := Lib.hid (light_no (c := c) (d := d) HC.out HS.out hl)
    clear hl hno
    go_enter Try.func8, Try.ntmps8
    go_wp2_with fail
    refine Hl.out.mono ?_; rintro e w1 ⟨rfl, rfl⟩
    go_wp2_with fail
    refine (awakeM_any _).mono ?_; rintro e w9 ⟨rfl, m⟩
    have M := Lib.hid m
    clear m
    go_wp2_with fail
    go_ret
    exact ⟨rfl, M.out⟩
  have Hl := Lib.hid (light_yes (c := c) (d := d) HC.out HS.out hl)
  have hk := check_any (c := c) (d := d) HC.out HS.out
  by_cases hok : chkM C sk = 0
  case neg =>
    have hb : (chkM C sk != 0) = true := bne_iff_ne.2 hok
    have Hk := Lib.hid hk
    clear hl hok hk hno
    go_enter Try.func8, Try.ntmps8
    go_wp2_with fail
    refine Hl.out.mono ?_; rintro e w1 ⟨rfl, rfl⟩
    go_wp2_with fail
    refine Hk.out.mono ?_; rintro e w1 ⟨rfl, rfl⟩
    go_wp2_with fail
    refine (awakeM_any _).mono ?_; rintro e w9 ⟨rfl, m⟩
    have M := Lib.hid m
    clear m
    go_wp2_with fail
    go_ret
    exact ⟨rfl, M.out⟩
  rw [hok] at hk
  have Hk := Lib.hid hk
  have HP := Lib.hid (probOk hok)
  have hno2 : ¬ (0 ≤ row ∧ row < C.length ∧ 0 ≤ dl ∧ dl ≤ 1000000) := fun h => hno ⟨hl, hok, h⟩
  rw [HP.out.len] at Hk Hl ⊢
  clear hl hok hk hno
  generalize C.length = n at Hk Hl hno2 ⊢
  by_cases h1 : row < 0
  · clear hno2
    go_enter Try.func8, Try.ntmps8
    go_wp2_with fail
    refine Hl.out.mono ?_; rintro e w1 ⟨rfl, rfl⟩
    go_wp2_with fail
    refine Hk.out.mono ?_; rintro e w1 ⟨rfl, rfl⟩
    go_wp2_with fail
    refine (awakeM_any _).mono ?_; rintro e w9 ⟨rfl, m⟩
    have M := Lib.hid m
    clear m
    go_wp2_with fail
    go_ret
    exact ⟨rfl, M.out⟩
  by_cases h2 : (n : Int) ≤ row
  · clear hno2
    go_enter Try.func8, Try.ntmps8
    go_wp2_with fail
    refine Hl.out.mono ?_; rintro e w1 ⟨rfl, rfl⟩
    go_wp2_with fail
    refine Hk.out.mono ?_; rintro e w1 ⟨rfl, rfl⟩
    go_wp2_with fail
    refine (awakeM_any _).mono ?_; rintro e w9 ⟨rfl, m⟩
    have M := Lib.hid m
    clear m
    go_wp2_with fail
    go_ret
    exact ⟨rfl, M.out⟩
  by_cases h3 : dl < 0
  · clear hno2
    have h2' : row < (n : Int) := by omega
    go_enter Try.func8, Try.ntmps8
    go_wp2_with fail
    refine Hl.out.mono ?_; rintro e w1 ⟨rfl, rfl⟩
    go_wp2_with fail
    refine Hk.out.mono ?_; rintro e w1 ⟨rfl, rfl⟩
    go_wp2_with fail
    refine (awakeM_any _).mono ?_; rintro e w9 ⟨rfl, m⟩
    have M := Lib.hid m
    clear m
    go_wp2_with fail
    go_ret
    exact ⟨rfl, M.out⟩
  have h4 : 1000000 < dl := by omega
  · clear hno2
    have h2' : row < (n : Int) := by omega
    go_enter Try.func8, Try.ntmps8
    go_wp2_with fail
    refine Hl.out.mono ?_; rintro e w1 ⟨rfl, rfl⟩
    go_wp2_with fail
    refine Hk.out.mono ?_; rintro e w1 ⟨rfl, rfl⟩
    go_wp2_with fail
    refine (awakeM_any _).mono ?_; rintro e w9 ⟨rfl, m⟩
    have M := Lib.hid m
    clear m
    go_wp2_with fail
    go_ret
    exact ⟨rfl, M.out⟩

end Go.Proofs.Ytddjkmaigifomaa
