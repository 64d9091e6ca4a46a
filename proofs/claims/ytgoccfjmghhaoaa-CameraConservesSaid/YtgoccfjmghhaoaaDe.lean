/-
  The law CameraConserves walked.
-/
import Derived.Test.YtgoccfjmghhaoaaDd
set_option linter.unusedVariables false
set_option linter.unusedSimpArgs false
namespace Go.Proofs.Ytgoccfjmghhaoaa
open Go.RowKit

/-- The sums that the law keeps: what came in of each material (block A), what was seen of it as each class (block S). -/
def Kept2 (w : World) (A S n N : Nat) (Cm : Nat → Int) (Sn : Nat → Nat → Int) : Prop :=
  ∃ fA fS, w.rowIs A 3 n fA ∧ w.rowIs S 3 (n * N) fS ∧ (∀ m, m < n → fA m = .int .i64 (Cm m)) ∧ ∀ m, m < n → ∀ c, c < N → fS (m * N + c) = .int .i64 (Sn m c)
section
variable {w w' : World} {A S n N : Nat} {Cm Cm' : Nat → Int} {Sn Sn' : Nat → Nat → Int}
theorem Kept2.mod {D : Nat → Prop} (h : Kept2 w A S n N Cm Sn) (m : Mod D w w') (hA : ¬ D A) (hS : ¬ D S) : Kept2 w' A S n N Cm Sn := by
  obtain ⟨fA, fS, h1, h2, h3, h4⟩ := h
  exact ⟨fA, fS, h1.of_block (m.block A h1.lt hA), h2.of_block (m.block S h2.lt hS), h3, h4⟩
theorem Kept2.congr (h : Kept2 w A S n N Cm Sn) (h1 : ∀ m, m < n → Cm m = Cm' m) (h2 : ∀ m, m < n → ∀ c, c < N → Sn m c = Sn' m c) : Kept2 w A S n N Cm' Sn' := by
  obtain ⟨fA, fS, e1, e2, e3, e4⟩ := h
  exact ⟨fA, fS, e1, e2, fun m hm => by rw [e3 m hm, h1 m hm], fun m hm c hc => by rw [e4 m hm c hc, h2 m hm c hc]⟩
theorem Kept2.setS (h : Kept2 w A S n N Cm Sn) (hAS : A ≠ S) {m k : Nat} (hm : m < n) (hk : k < N) {v : Int} (hv : v = Sn' m k) (hS : ∀ j, j < n → ∀ c, c < N → ¬ (j = m ∧ c = k) → Sn j c = Sn' j c) :
    Kept2 (w.setCell ⟨S, m * N + k, none⟩ (.int .i64 v)) A S n N Cm Sn' := by
  obtain ⟨fA, fS, e1, e2, e3, e4⟩ := h
  refine ⟨fA, _, e1.setOther (by exact hAS) _, e2.set (m * N + k) _, e3, fun j hj c hc => ?_⟩
  show (if j * N + c = m * N + k then _ else fS (j * N + c)) = _
  by_cases he : j * N + c = m * N + k
  · obtain ⟨rfl, rfl⟩ := idx_inj hc hk he
    rw [if_pos rfl, hv]
  · rw [if_neg he, e4 j hj c hc, hS j hj c hc (fun e => he (by rw [e.1, e.2]))]
theorem Kept2.setA (h : Kept2 w A S n N Cm Sn) (hAS : A ≠ S) {m : Nat} (hm : m < n) {v : Int} (hv : v = Cm' m) (hC : ∀ j, j < n → j ≠ m → Cm j = Cm' j) :
    Kept2 (w.setCell ⟨A, m, none⟩ (.int .i64 v)) A S n N Cm' Sn := by
  obtain ⟨fA, fS, e1, e2, e3, e4⟩ := h
  refine ⟨_, fS, e1.set m _, e2.setOther (by exact fun e => hAS e.symm) _, fun j hj => ?_, e4⟩
  show (if j = m then _ else fA j) = _
  by_cases he : j = m
  · subst he; rw [if_pos rfl, hv]
  · rw [if_neg he, e3 j hj, hC j hj he]
theorem Kept2.cellS (h : Kept2 w A S n N Cm Sn) {m k : Nat} (hm : m < n) (hk : k < N) : w.cell? ⟨S, m * N + k, none⟩ = some (.int .i64 (Sn m k)) ∧ w.frozen? ⟨S, m * N + k, none⟩ = false := by
  obtain ⟨fA, fS, e1, e2, e3, e4⟩ := h
  exact ⟨by rw [e2.cell (idx_lt hm hk), e4 m hm k hk], e2.frozen _⟩
theorem Kept2.cellA (h : Kept2 w A S n N Cm Sn) {m : Nat} (hm : m < n) : w.cell? ⟨A, m, none⟩ = some (.int .i64 (Cm m)) ∧ w.frozen? ⟨A, m, none⟩ = false := by
  obtain ⟨fA, fS, e1, e2, e3, e4⟩ := h
  exact ⟨by rw [e1.cell hm, e3 m hm], e1.frozen _⟩
theorem Kept2.lt (h : Kept2 w A S n N Cm Sn) : A < w.heap.size ∧ S < w.heap.size := by
  obtain ⟨fA, fS, e1, e2, e3, e4⟩ := h
  exact ⟨e1.lt, e2.lt⟩
end

theorem Mixes.at {D : Nat → Prop} {w : World} {a : Option Addr} {xss : List (List Int)} (h : Mixes D w a xss) (h0 : 0 < xss.length) : ∃ b off, a = some ⟨b, off, none⟩ ∧ D b ∧ ∀ k, k < xss.length → ∃ a' c', w.cell? ⟨b, off + k, none⟩ = some (.slice a' (rx xss k).length c') ∧ Ints D w a' (rx xss k) :=
  h.2 (by intro e; rw [e] at h0; simp at h0)
theorem Ints.at {D : Nat → Prop} {w : World} {a : Option Addr} {xs : List Int} (h : Ints D w a xs) (h0 : 0 < xs.length) : ∃ b off, a = some ⟨b, off, none⟩ ∧ D b ∧ ∀ k, k < xs.length → w.cell? ⟨b, off + k, none⟩ = some (.int .i64 (ix xs k)) := by
  obtain ⟨b, off, e, hD, hc⟩ := h.2 (by intro e; rw [e] at h0; simp at h0)
  exact ⟨b, off, e, hD, fun k hk => (hc k hk).1⟩

set_option maxRecDepth 100000 in
set_option maxHeartbeats 6400000 in
theorem camConserves_fin (a : Option Addr) (c : Nat) (l : List (List Int)) {w : World} (hx : Mixes Any w a l) (_ : l.length ≤ c) (_ : ∀ k y, y ∈ rx l k → I64 y) (a2 : Option Addr) (c2 : Nat) (xs : List (List Int)) (hp : Mixes Any w a2 xs) (_ : xs.length ≤ c2) (_ : ∀ k y, y ∈ rx xs k → I64 y) (_ : World) :
    Calls Try.prog 6 #[.agg #[.slice a l.length c], .slice a2 xs.length c2] w fun e w' => e = .returned (.bool true) ∧ Mod NoBlock w w' := by
  have m0 := (Mod.refl NoBlock w).alloc (.cells #[.slice a l.length c] 24)
  have HXw := Lib.hid (hx.mono (D' := fun b => b < w.heap.size) fun b hb _ => hb)
  have HPw := Lib.hid (hp.mono (D' := fun b => b < w.heap.size) fun b hb _ => hb)
  have HX := Lib.hid (HXw.out.frame m0)
  have HP := Lib.hid (HPw.out.frame m0)
  have M := Lib.hid m0
  have hB := cell_new w #[.slice a l.length c] 24 0 _ rfl
  have hlp := hp.1
  have hll := hx.1
  unfold maxLen at hlp hll
  have hbw : w.heap.size < (w.alloc (.cells #[.slice a l.length c] 24)).heap.size := by simp
  have AW := Lib.hid awakeC_any
  clear hx hp m0
  go_enter Try.func6, Try.ntmps6
  go_wp2_with fail
  generalize w.alloc (.cells #[.slice a l.length c] 24) = w0 at HX HP M hB hbw ⊢
  refine (great_some _ _ _ _ _ HX.out).mono ?_
  rintro e w1 ⟨b, rfl, m1⟩
  replace hbw := Nat.lt_of_lt_of_le hbw m1.size
  replace M := Lib.hid (M.out.trans m1); replace HX := Lib.hid (HX.out.frame m1); replace HP := Lib.hid (HP.out.frame m1); replace hB := m1.cell hB id; clear m1
  cases b
  · go_wp2_with fail
    refine (long_some _ _ _ _ _ (HP.out)).mono ?_
    rintro e w2 ⟨b, rfl, h12, rfl⟩
    cases b
    · have x12 : xs.length ≤ 12 := h12 rfl
      clear h12
      by_cases h : camE l l.length = 0
      · have H := Lib.hid h
        obtain ⟨l1, l16, -, hrow, hlen⟩ := cam_ok h
        have Hok := Lib.hid (EyeOk.new h)
        have l4 := (row_ok (hrow 0 l1)).2.1
        have lN := (row_ok (hrow 0 l1)).1
        clear h hrow hlen
        go_wp2_with fail
        refine (camCheck_any _ _ _ _ _ _ HX.out).mono ?_
        rw [H.out]
        rintro e w3 ⟨rfl, m1⟩
        replace hbw := Nat.lt_of_lt_of_le hbw m1.size
        replace M := Lib.hid (M.out.trans m1); replace HX := Lib.hid (HX.out.frame m1); replace hB := m1.cell hB id; clear m1 HP
        go_wp2_with fail
        refine (camNew_ok _ _ _ _ _ _ HX.out H.out).mono ?_
        rintro e w4 ⟨p, rfl, m1, he⟩
        obtain ⟨lo, hlo⟩ : ∃ lo, w3.heap.size = lo := ⟨_, rfl⟩
        obtain ⟨hi, hhi⟩ : ∃ hi, w4.heap.size = hi := ⟨_, rfl⟩
        rw [hlo, hhi] at he
        have hlh : lo ≤ hi := by rw [← hlo, ← hhi]; exact m1.size
        replace hbw : w.heap.size < lo := by omega
        have HY := Lib.hid he
        replace M := Lib.hid (M.out.trans m1); replace HX := Lib.hid (HX.out.frame m1); replace hB := m1.cell hB id; clear m1 he hlo H
        obtain ⟨b, off, rfl, _, hcx⟩ := HX.out.at l1
        obtain ⟨ar0, cr0, hr0, hi0⟩ := hcx 0 l1
        rw [Nat.add_zero] at hr0
        have hbl : b < w.heap.size := by
          obtain ⟨b', o', e, hD, _⟩ := HX.out.at l1
          simp only [Option.some.injEq, Addr.mk.injEq, and_true] at e
          rw [e.1]; exact hD
        obtain ⟨N, hN⟩ : ∃ N, (rx l 0).length = N := ⟨_, rfl⟩
        rw [hN] at hr0 l4 lN
        obtain ⟨Q, hQ⟩ : ∃ Q, l.length * N = Q := ⟨_, rfl⟩
        have hQ64 : Q ≤ 64 := by rw [← hQ]; exact Nat.mul_le_mul l16 l4
        have eQ : IntKind.i64.wrap ((l.length : Int) * (N : Int)) = (Q : Int) := by
          rw [← Int.natCast_mul, hQ]; exact IntWalk.i64_in _ (by omega)
        have hmk := run_make_row' (P := Try.prog) 41 3 (.int .i64 0) 8 Try.underlying41 infoIntsC rfl .i64 .i64 l.length (by omega) (by omega)
        have hmk2 := run_make_row' (P := Try.prog) 41 3 (.int .i64 0) 8 Try.underlying41 infoIntsC rfl .i64 .i64 Q (by omega) (by omega)
        have n1 : (1 : Int) ≤ l.length := by omega
        have n16 : (l.length : Int) ≤ 16 := by omega
        have N1 : (1 : Int) ≤ N := by omega
        have N4 : (N : Int) ≤ 4 := by omega
        have q64 : (Q : Int) ≤ 64 := by omega
        have hbw4 : w.heap.size < w4.heap.size := by omega
        have hl0 : ((l.length : Int) == 0) = false := by rw [beq_eq_false_iff_ne]; omega
        have HHI := Lib.hid hhi
        clear hcx hi0 hhi
        go_wp2
        have hk2 : Kept2 ((w4.alloc (.cells (madeCells #[.int .i64 0] l.length) 3)).alloc (.cells (madeCells #[.int .i64 0] Q) 3)) w4.heap.size (w4.heap.size + 1) l.length N (fun _ => 0) (fun _ _ => 0) := by
          have h1 := (World.rowIs_made w4 (.int .i64 0) l.length 3).alloc (.cells (madeCells #[.int .i64 0] Q) 3)
          have h2 := World.rowIs_made (w4.alloc (.cells (madeCells #[.int .i64 0] l.length) 3)) (.int .i64 0) Q 3
          rw [World.size_alloc] at h2
          rw [← hQ] at h2 h1 ⊢
          exact ⟨_, _, h1, h2, fun _ _ => rfl, fun _ _ _ _ => rfl⟩
        have mA := ((Mod.refl NoBlock w4).alloc (.cells (madeCells #[.int .i64 0] l.length) 3)).alloc (.cells (madeCells #[.int .i64 0] Q) 3)
        have hB5 := mA.cell hB id
        replace M := Lib.hid (M.out.trans mA)
        replace HY := Lib.hid (HY.out.frame mA)
        have HK := Lib.hid hk2
        have HB5 := Lib.hid hB5
        clear hk2 mA hB5 hB hr0 HX
        generalize (w4.alloc (.cells (madeCells #[.int .i64 0] l.length) 3)).alloc (.cells (madeCells #[.int .i64 0] Q) 3) = w5 at HK HB5 M HY ⊢
        rw [HHI.out] at HK ⊢
        have hst : Step l (zeros l) 0 (fun _ => 0) (fun _ _ => 0) := ⟨fun m hm => by simp, fun m hm c hc => by
          rw [rx_zeros hm, ix_replicate (by rw [Hok.out.same m hm]; exact hc)]; simp⟩
        have HS := Lib.hid hst
        have HNN := Lib.hid hN
        clear hst hN
        go_loopw [10, 11, 12, 13, 14, 15] (fun i v1 v2 v3 v4 v5 wr => ∃ (k : Nat) (oss : List (List Int)) (Cm : Nat → Int) (Sn : Nat → Nat → Int), k ≤ xs.length ∧ i = .int .i64 k ∧ Mod NoBlock w wr ∧ wr.cell? ⟨w.heap.size, 0, none⟩ = some (.slice (some ⟨b, off, none⟩) l.length c) ∧ EyeAt wr lo hi p l oss ∧ EyeOk l oss ∧
            Kept2 wr hi (hi + 1) l.length N Cm Sn ∧ Step l oss k Cm Sn) (fun i _ _ _ _ _ _ => xs.length - (intOf i).toNat)
        case atStart => exact ⟨0, zeros l, _, _, by omega, rfl, M.out, HB5.out, HY.out, Hok.out, HK.out, HS.out⟩
        case round =>
          clear M HB5 HY HK HS Hok
          obtain ⟨k, oss, Cm, Sn, hk, rfl, hm, hbox, hey, hok, hkp, hst⟩ := hrel
          have M := Lib.hid hm
          have HB := Lib.hid hbox
          have HY := Lib.hid hey
          have Hok := Lib.hid hok
          have HK := Lib.hid hkp
          have HS := Lib.hid hst
          clear hm hbox hey hok hkp hst
          obtain ⟨wo, rfl⟩ : ∃ wo : World, wo = wr := ⟨_, rfl⟩
          by_cases hlt : k < xs.length
          · obtain ⟨b2, off2, rfl, hb2, hcl⟩ := (HPw.out.frame M.out).at (by omega)
            obtain ⟨ar, cr, h1, hir⟩ := hcl k hlt
            have HR := Lib.hid hir
            have hlr := hir.1
            unfold maxLen at hlr
            have hsK := HK.out.lt
            have k0 : (0 : Int) ≤ (k : Int) := by omega
            have kx : (k : Int) < (xs.length : Int) := by omega
            clear hcl hir
            by_cases hE : seeE l.length (rx xs k) = 0
            · obtain ⟨hf, hlx⟩ := seeE_ok hE
              obtain ⟨-, hg⟩ := ok_of_fault hf
              have Hg := Lib.hid hg
              have HE := Lib.hid hE
              have Hlx := Lib.hid hlx
              have HP := Lib.hid (see_ok lo hi p l oss ar cr (rx xs k) (fun b => b < w.heap.size) wo HY.out HR.out Hok.out (fun b h => by omega) (by omega) hE)
              rw [hlx, HNN.out] at HP
              rw [hlx] at h1
              clear hf hg hE hlx hlr
              go_wp2_with fail
              refine HP.out.mono ?_
              rintro e w6 ⟨al, cl, rfl, m, hey, hl⟩
              clear HP
              have hsz := m.size
              replace M := Lib.hid (M.out.step m fun b hb h => by omega)
              replace HR := Lib.hid (HR.out.mod m fun b _ h h2 => by omega)
              replace h1 : w6.cell? ⟨b2, off2 + k, none⟩ = some (.slice ar l.length cr) := m.cell h1 (by show ¬ (lo ≤ b2 ∧ b2 < hi); omega)
              have hbx : w6.cell? ⟨w.heap.size, 0, none⟩ = some (.slice (some ⟨b, off, none⟩) l.length c) := m.cell HB.out (by show ¬ (lo ≤ w.heap.size ∧ w.heap.size < hi); omega)
              replace HK := Lib.hid (HK.out.mod m (by omega) (by omega))
              replace HY := Lib.hid hey
              have HL := Lib.hid (hl.mono (D' := fun b => hi + 1 < b) fun b _ h => by have h : wo.heap.size ≤ b := h; omega)
              clear m hey hl HB
              go_wp2_with (go_quiet (fail))
              obtain ⟨W2, hW2⟩ : ∃ W2 : World, w6.drewN nq = W2 := ⟨_, rfl⟩
              have M6 : Mod NoBlock w6 W2 := by rw [← hW2]; exact (Mod.refl _ _).drewN _
              rw [hW2]
              replace M := Lib.hid (M.out.trans M6)
              replace HR := Lib.hid (HR.out.frame M6)
              replace h1 := M6.cell h1 id
              replace hbx := M6.cell hbx id
              replace HK := Lib.hid (HK.out.mod M6 id id)
              replace HY := Lib.hid (HY.out.frame M6)
              replace HL := Lib.hid (HL.out.frame M6)
              clear M6 hW2 hsz hsK
              have hsK := HK.out.lt
              obtain ⟨brx, orx, rfl, hbrx, hcr⟩ := HR.out.at (by rw [Hlx.out]; exact l1)
              obtain ⟨bo, oo, rfl, hbo, hco⟩ := HL.out.at (by rw [seeL_length, HNN.out]; exact lN)
              have Hcr := Lib.hid hcr
              have Hco := Lib.hid hco
              have HH1 := Lib.hid h1
              have HBX := Lib.hid hbx
              have HSt := Lib.hid (fun m c hm hc => HS.out.bound Hok.out (by omega) (m := m) (c := c) hm hc)
              clear hcr hco h1 hbx
              go_loopw [13, 14, 15] (fun i v1 v2 wr => ∃ m : Nat, m ≤ l.length ∧ i = .int .i64 m ∧ Mod (fun b => b = hi ∨ b = hi + 1) W2 wr ∧
                  Kept2 wr hi (hi + 1) l.length N (fun j => if j < m then Cm j + ix (rx xs k) j else Cm j) (fun j c => if j < m then Sn j c + seP l oss (rx xs k) j c else Sn j c)) (fun i _ _ _ => l.length - (intOf i).toNat)
              case atStart => exact ⟨0, by omega, rfl, Mod.refl _ _, HK.out.congr (fun j _ => (if_neg (by omega)).symm) (fun j _ c _ => (if_neg (by omega)).symm)⟩
              case round =>
                clear HK
                obtain ⟨m, hm, rfl, hmm, hkm⟩ := hrel
                have M2 := Lib.hid hmm
                have HK := Lib.hid hkm
                clear hmm hkm
                have h1 := M2.out.cell HH1.out (by show ¬ (b2 = hi ∨ b2 = hi + 1); omega)
                by_cases hltm : m < l.length
                · have m0 : (0 : Int) ≤ (m : Int) := by omega
                  have mx : (m : Int) < (l.length : Int) := by omega
                  have h2 := M2.out.cell (Hcr.out m (by rw [Hlx.out]; exact hltm)) (by show ¬ (brx = hi ∨ brx = hi + 1); omega)
                  obtain ⟨g0, g1⟩ := Hg.out m (by rw [Hlx.out]; exact hltm)
                  have hrow0 := Hok.out.rows m hltm
                  have hrl := Hok.out.same m hltm
                  rw [HNN.out] at hrl
                  have Hsum := Lib.hid (show sumF (seP l oss (rx xs k) m) N = ix (rx xs k) m by rw [← hrl]; exact next_sum hrow0 g0)
                  have Hlow := Lib.hid (show ∀ c, c < N → 0 ≤ seP l oss (rx xs k) m c from fun c hc => next_low hrow0 g0 (by rw [hrl]; exact hc))
                  have HCm := Lib.hid (HS.out.came m hltm)
                  obtain ⟨y, hy⟩ : ∃ y, ix (rx xs k) m = y := ⟨_, rfl⟩
                  rw [hy] at h2 g0 g1 Hsum
                  have Hy := Lib.hid hy
                  clear hy hrow0 hrl
                  go_wp2
                  go_loopw [14, 15] (fun s u wr => ∃ q : Nat, q ≤ N ∧ u = .int .i64 q ∧ s = .int .i64 (sumF (seP l oss (rx xs k) m) q) ∧ Mod (fun b => b = hi ∨ b = hi + 1) W2 wr ∧
                      Kept2 wr hi (hi + 1) l.length N (fun j => if j < m then Cm j + ix (rx xs k) j else Cm j) (fun j c => if j < m ∨ (j = m ∧ c < q) then Sn j c + seP l oss (rx xs k) j c else Sn j c)) (fun _ u _ => N - (intOf u).toNat)
                  case atStart => exact ⟨0, by omega, rfl, rfl, M2.out, HK.out.congr (fun _ _ => rfl) (fun j _ c _ => by
                    by_cases hj : j < m
                    · rw [if_pos hj, if_pos (.inl hj)]
                    · rw [if_neg hj, if_neg (by omega)])⟩
                  case round =>
                    clear HK M2 h1 h2
                    obtain ⟨q, hq, rfl, rfl, hmm, hkm⟩ := hrel
                    have M2 := Lib.hid hmm
                    have HK := Lib.hid hkm
                    clear hmm hkm
                    obtain ⟨wo2, rfl⟩ : ∃ wo : World, wo = wr := ⟨_, rfl⟩
                    by_cases hltq : q < N
                    · obtain ⟨u, hu⟩ : ∃ u, m * N = u := ⟨_, rfl⟩
                      obtain ⟨z, hz⟩ : ∃ z, u + q = z := ⟨_, rfl⟩
                      have hzQ : z < Q := by rw [← hz, ← hu, ← hQ]; exact idx_lt hltm hltq
                      have hmz : m * N + q = z := by omega
                      have hu64 : u ≤ 64 := by omega
                      have hcs := HK.out.cellS hltm hltq
                      rw [hmz, if_neg (by omega)] at hcs
                      obtain ⟨hcS, hzS⟩ := hcs
                      have h1 := M2.out.cell HH1.out (by show ¬ (b2 = hi ∨ b2 = hi + 1); omega)
                      have hb1 := M2.out.cell HBX.out (by show ¬ (w.heap.size = hi ∨ w.heap.size = hi + 1); omega)
                      obtain ⟨aq, cq, h3, hiq⟩ := Hco.out q (by rw [seeL_length, HNN.out]; exact hltq)
                      rw [rx_seeL_length (by rw [HNN.out]; exact hltq)] at h3
                      obtain ⟨bq, oq, rfl, hbq, hcq⟩ := hiq.at (by rw [rx_seeL_length (by rw [HNN.out]; exact hltq)]; exact l1)
                      have h4 := hcq m (by rw [rx_seeL_length (by rw [HNN.out]; exact hltq)]; exact hltm)
                      rw [seP_row (by rw [HNN.out]; exact hltq) hltm] at h4
                      have h3 := M2.out.cell h3 (by show ¬ (bo = hi ∨ bo = hi + 1); omega)
                      have h4 := M2.out.cell h4 (by show ¬ (bq = hi ∨ bq = hi + 1); omega)
                      obtain ⟨t0, t1, -⟩ := HSt.out m q hltm (by rw [HNN.out]; exact hltq)
                      have v0 := Hlow.out q hltq
                      have v1 := sumF_ge (F := seP l oss (rx xs k) m) (fun j hj => Hlow.out j hj) hltq
                      rw [Hsum.out] at v1
                      obtain ⟨s0, s1⟩ := sumF_part (F := seP l oss (rx xs k) m) (fun j hj => Hlow.out j hj) hq
                      rw [Hsum.out] at s1
                      have Hss := Lib.hid (show sumF (seP l oss (rx xs k) m) (q + 1) = sumF (seP l oss (rx xs k) m) q + seP l oss (rx xs k) m q from rfl)
                      have Hset := Lib.hid (show ∀ v : Int, v = Sn m q + seP l oss (rx xs k) m q → Kept2 (wo2.setCell ⟨hi + 1, m * N + q, none⟩ (.int .i64 v)) hi (hi + 1) l.length N (fun j => if j < m then Cm j + ix (rx xs k) j else Cm j) (fun j c => if j < m ∨ (j = m ∧ c < q + 1) then Sn j c + seP l oss (rx xs k) j c else Sn j c) from fun v hv =>
                        HK.out.setS (by omega) hltm hltq (hv.trans (if_pos (.inr ⟨rfl, Nat.lt_succ_self q⟩)).symm) (fun j hj c hc hne => by
                          show (if j < m ∨ (j = m ∧ c < q) then _ else _) = (if j < m ∨ (j = m ∧ c < q + 1) then _ else _)
                          by_cases hd : j < m ∨ (j = m ∧ c < q)
                          · rw [if_pos hd, if_pos (by omega)]
                          · rw [if_neg hd, if_neg (by omega)]))
                      rw [hmz] at Hset
                      clear hiq hcq
                      generalize sumF (seP l oss (rx xs k) m) q = s at s0 s1 Hss
                      generalize seP l oss (rx xs k) m q = v at h4 v0 v1 Hss Hset
                      generalize Sn m q = t at hcS t0 t1 Hset
                      have e3 : IntKind.i64.wrap ((m : Int) * (N : Int)) = (u : Int) := by
                        rw [← Int.natCast_mul, hu]; exact IntWalk.i64_in _ (by omega)
                      have e4 : IntKind.i64.wrap ((u : Int) + (q : Int)) = (z : Int) := by
                        rw [← hz]; rw [Int.natCast_add]; exact IntWalk.i64_in _ (by omega)
                      have z0 : (0 : Int) ≤ (z : Int) := by omega
                      have zQ : (z : Int) < (Q : Int) := by omega
                      have q0 : (0 : Int) ≤ (q : Int) := by omega
                      have qN : (q : Int) < (N : Int) := by omega
                      have e5 : IntKind.i64.wrap (s + v) = s + v := IntWalk.i64_in _ (by omega)
                      have e6 : IntKind.i64.wrap (t + v) = t + v := IntWalk.i64_in _ (by omega)
                      have nv : ¬ v < 0 := by omega
                      clear t0 t1 v0 v1 s0 s1 hu hz hzQ hmz hu64
                      go_wp2_with (go_quiet (fail))
                      go_region
                      go_wp2
                      exact ⟨⟨q + 1, by omega, by go_num, by rw [Hss.out], (M2.out.drewN _).setCell (p := ⟨hi + 1, z, none⟩) (.inl (.inr rfl)) _, Kept2.mod (D := NoBlock) (Hset.out _ rfl) ⟨rfl, rfl, rfl, Nat.le_refl _, fun _ _ _ => rfl⟩ id id⟩, by simp [intOf]; omega⟩
                    · have hqN : q = N := by omega
                      have h1 := M2.out.cell HH1.out (by show ¬ (b2 = hi ∨ b2 = hi + 1); omega)
                      have h2 := M2.out.cell (Hcr.out m (by rw [Hlx.out]; exact hltm)) (by show ¬ (brx = hi ∨ brx = hi + 1); omega)
                      rw [Hy.out] at h2
                      have hsum := Hsum.out
                      rw [← hqN] at hsum
                      rw [hsum]
                      obtain ⟨hcA, hzA⟩ := HK.out.cellA hltm
                      rw [if_neg (by omega)] at hcA
                      obtain ⟨a0, a1⟩ := HCm.out
                      have Hset := Lib.hid (show ∀ v : Int, v = Cm m + y → Kept2 (wo2.setCell ⟨hi, m, none⟩ (.int .i64 v)) hi (hi + 1) l.length N (fun j => if j < m + 1 then Cm j + ix (rx xs k) j else Cm j) (fun j c => if j < m ∨ (j = m ∧ c < q) then Sn j c + seP l oss (rx xs k) j c else Sn j c) from fun v hv =>
                        HK.out.setA (by omega) hltm (hv.trans (by rw [← Hy.out]; exact (if_pos (Nat.lt_succ_self m)).symm)) (fun j hj hne => by
                          show (if j < m then _ else _) = (if j < m + 1 then _ else _)
                          by_cases hd : j < m
                          · rw [if_pos hd, if_pos (by omega)]
                          · rw [if_neg hd, if_neg (by omega)]))
                      generalize Cm m = t at hcA a0 a1 Hset
                      have hk12 : (k : Int) ≤ 12 := by omega
                      have e6 : IntKind.i64.wrap (t + y) = t + y := IntWalk.i64_in _ (by omega)
                      have kq : (q : Int) = (N : Int) := by omega
                      clear hsum
                      go_wp2
                      refine ⟨⟨m + 1, by omega, by go_num, M2.out.setCell (p := ⟨hi, m, none⟩) (.inl (.inl rfl)) _, (Hset.out _ rfl).congr (fun _ _ => rfl) (fun j hj c hc => ?_)⟩, by simp [intOf]; omega⟩
                      by_cases hd : j < m ∨ (j = m ∧ c < q)
                      · rw [if_pos hd, if_pos (by omega)]
                      · rw [if_neg hd, if_neg (by omega)]
                · have hml : m = l.length := by omega
                  have hk9 := HK.out.congr (Cm' := fun j => Cm j + ix (rx xs k) j) (Sn' := fun j c => Sn j c + seP l oss (rx xs k) j c) (fun j hj => if_pos (by omega)) (fun j hj c hc => if_pos (by omega))
                  have HK9 := Lib.hid hk9
                  have hne' : ∀ b', lo ≤ b' → b' < hi → ¬ (b' = hi ∨ b' = hi + 1) := fun b' _ h => by omega
                  have HM9 := Lib.hid (M.out.step M2.out fun b' hb' h => by omega)
                  have HY9 := Lib.hid (HY.out.mod M2.out hne')
                  have HB9 := Lib.hid (M2.out.cell HBX.out (by show ¬ (w.heap.size = hi ∨ w.heap.size = hi + 1); omega))
                  have HS9 := Lib.hid (HS.out.next Hok.out HE.out)
                  have Hok9 := Lib.hid (Hok.out.any (rx xs k))
                  have e9 : seeN l oss (rx xs k) = seeO l oss (rx xs k) := if_pos HE.out
                  rw [← e9] at HY9
                  clear hk9 hne' e9 HK
                  go_wp2
                  exact ⟨⟨k + 1, seeN l oss (rx xs k), _, _, by omega, by go_num, HM9.out, HB9.out, HY9.out, Hok9.out, HK9.out, HS9.out⟩, by simp [intOf]; omega⟩
            · have HE := Lib.hid hE
              have hne : (seeE l.length (rx xs k) != 0) = true := by simpa using hE
              clear hE
              go_wp2_with fail
              refine (see_bad lo hi p l oss ar cr (rx xs k) (fun b => b < w.heap.size) wo HY.out HR.out Hok.out.few HE.out).mono ?_
              rintro e w6 ⟨rfl, m⟩
              replace M := Lib.hid (M.out.trans m)
              replace HY := Lib.hid (HY.out.frame m)
              replace HK := Lib.hid (HK.out.mod m id id)
              replace HB := Lib.hid (m.cell HB.out id)
              clear m h1
              go_wp2
              exact ⟨⟨k + 1, oss, Cm, Sn, by omega, by go_num, M.out, HB.out, HY.out, Hok.out, HK.out, HS.out.more⟩, by simp [intOf]; omega⟩
          · have hkx : k = xs.length := by omega
            have hb1 := HB.out
            have HSt := Lib.hid (fun m c hm hc => HS.out.bound Hok.out (by omega) (m := m) (c := c) hm hc)
            have Hsame := Lib.hid (fun m hm => Hok.out.same m hm)
            clear HB HY Hok HS
            go_wp2
            have HBX := Lib.hid hb1
            clear hb1
            go_loopw [16, 17, 18] (fun i v1 v2 wr => ∃ m : Nat, m ≤ l.length ∧ i = .int .i64 m ∧ ∃ nd, wr = wo.drewN nd) (fun i _ _ _ => l.length - (intOf i).toNat)
            case atStart => exact ⟨0, by omega, rfl, 0, rfl⟩
            case round =>
              obtain ⟨m, hm, rfl, nd, rfl⟩ := hrel
              by_cases hltm : m < l.length
              · go_wp2
                go_loopw [17, 18] (fun i v1 wr => ∃ q : Nat, q ≤ N ∧ i = .int .i64 q ∧ ∃ nd, wr = wo.drewN nd) (fun i _ _ => N - (intOf i).toNat)
                case atStart => exact ⟨0, by omega, rfl, _, rfl⟩
                case round =>
                  clear nd
                  obtain ⟨q, hq, rfl, nd, rfl⟩ := hrel
                  by_cases hltq : q < N
                  · obtain ⟨u, hu⟩ : ∃ u, m * N = u := ⟨_, rfl⟩
                    obtain ⟨z, hz⟩ : ∃ z, u + q = z := ⟨_, rfl⟩
                    have hzQ : z < Q := by rw [← hz, ← hu, ← hQ]; exact idx_lt hltm hltq
                    have hmz : m * N + q = z := by omega
                    have hu64 : u ≤ 64 := by omega
                    have hcs := (HK.out.cellS hltm hltq).1
                    rw [hmz] at hcs
                    have hca := (HK.out.cellA hltm).1
                    obtain ⟨b', off', e, hD, hcx⟩ := (HXw.out.frame M.out).at l1
                    simp only [Option.some.injEq, Addr.mk.injEq, and_true] at e
                    obtain ⟨rfl, rfl⟩ := e
                    obtain ⟨am, cm, h1, him⟩ := hcx m hltm
                    have hrl := Hsame.out m hltm
                    rw [HNN.out] at hrl
                    rw [hrl] at h1
                    obtain ⟨bm, om, rfl, _, hcm⟩ := him.at (by omega)
                    have h2 := hcm q (by omega)
                    obtain ⟨t0, t1, p0, p1, d0, d1⟩ := HSt.out m q hltm (by rw [HNN.out]; exact hltq)
                    rw [HNN.out] at d1
                    have hb1 := HBX.out
                    clear hcx him hcm hrl
                    generalize Sn m q = t at hcs t0 t1 d0 d1
                    generalize Cm m = x at hca p0 p1 d0 d1
                    generalize ix (rx l m) q = y at h2 p0 p1 d0 d1
                    have e3 : IntKind.i64.wrap ((m : Int) * (N : Int)) = (u : Int) := by
                      rw [← Int.natCast_mul, hu]; exact IntWalk.i64_in _ (by omega)
                    have e4 : IntKind.i64.wrap ((u : Int) + (q : Int)) = (z : Int) := by
                      rw [← hz]; rw [Int.natCast_add]; exact IntWalk.i64_in _ (by omega)
                    have z0 : (0 : Int) ≤ (z : Int) := by omega
                    have zQ : (z : Int) < (Q : Int) := by omega
                    have q0 : (0 : Int) ≤ (q : Int) := by omega
                    have qN : (q : Int) < (N : Int) := by omega
                    have m0 : (0 : Int) ≤ (m : Int) := by omega
                    have mx : (m : Int) < (l.length : Int) := by omega
                    have e5 : IntKind.i64.wrap (x * y) = x * y := IntWalk.i64_in _ (by omega)
                    have e6 : IntKind.i64.wrap (1000 * t) = 1000 * t := IntWalk.i64_in _ (by omega)
                    have e7 : IntKind.i64.wrap (x * y - 1000 * t) = x * y - 1000 * t := IntWalk.i64_in _ (by omega)
                    have e8 : IntKind.i64.wrap (-1000 * (N : Int)) = -1000 * (N : Int) := IntWalk.i64_in _ (by omega)
                    have e9 : IntKind.i64.wrap (1000 * (N : Int)) = 1000 * (N : Int) := IntWalk.i64_in _ (by omega)
                    have g1 : ¬ x * y - 1000 * t ≤ -1000 * (N : Int) := by omega
                    have g2 : ¬ 1000 * (N : Int) ≤ x * y - 1000 * t := by omega
                    have g1' := decide_eq_false g1
                    have g2' := decide_eq_false g2
                    clear t0 t1 p0 p1 d0 d1 hu hz hzQ hmz hu64
                    go_wp2_with (go_quiet (fail))
                    exact ⟨⟨q + 1, by omega, by go_num, _, rfl⟩, by simp [intOf]; omega⟩
                  · go_wp2
                    exact ⟨⟨m + 1, by omega, by go_num, _, rfl⟩, by simp [intOf]; omega⟩
              · replace M := Lib.hid (M.out.drewN nd)
                clear HBX HK HSt
                go_wp2_with fail
                refine (AW.out _).mono ?_; rintro e w9 ⟨rfl, m⟩; have M := Lib.hid (M.out.trans m); clear m
                go_wp2
                go_ret
                exact ⟨rfl, M.out⟩
      · have hne : (camE l l.length != 0) = true := by simpa using h
        clear h
        go_wp2_with fail
        refine (camCheck_any _ _ _ _ _ _ HX.out).mono ?_
        rintro e w3 ⟨rfl, m1⟩
        replace M := Lib.hid (M.out.trans m1); clear m1 hB HX HP
        go_wp2_with fail
        refine (AW.out _).mono ?_; rintro e w9 ⟨rfl, m⟩; have M := Lib.hid (M.out.trans m); clear m
        go_wp2
        go_ret
        exact ⟨rfl, M.out⟩
    · clear hB HX HP
      go_wp2_with fail
      refine (AW.out _).mono ?_; rintro e w9 ⟨rfl, m⟩; have M := Lib.hid (M.out.trans m); clear m
      go_wp2
      go_ret
      exact ⟨rfl, M.out⟩
  · clear hB HX HP
    go_wp2_with fail
    refine (AW.out _).mono ?_; rintro e w9 ⟨rfl, m⟩; have M := Lib.hid (M.out.trans m); clear m
    go_wp2
    go_ret
    exact ⟨rfl, M.out⟩

end Go.Proofs.Ytgoccfjmghhaoaa
