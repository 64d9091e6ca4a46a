/-
  The law TopCameraJets walked.
-/
import Derived.Test.YtnpdkpbecmpdbaaJf
import Derived.Test.YtnpdkpbecmpdbaaCd
import Derived.Test.YtnpdkpbecmpdbaaCn
import Derived.Test.YtnpdkpbecmpdbaaOpen
set_option linter.unusedVariables false
set_option linter.unusedSimpArgs false
namespace Go.Proofs.Ytnpdkpbecmpdbaa
open Go.RowKit

theorem sumJ_part {F : Nat → Int} : ∀ {n k : Nat}, (∀ j, j < n → 0 ≤ F j) → k ≤ n → 0 ≤ sumF F k ∧ sumF F k ≤ sumF F n
  | 0, k, _, hk => by obtain rfl : k = 0 := by omega
                      simp [sumF]
  | n + 1, k, h, hk => by
    by_cases hkn : k = n + 1
    · subst hkn
      have := sumJ_part (F := F) (n := n) (k := n) (fun j hj => h j (by omega)) (Nat.le_refl _)
      have := h n (by omega)
      simp only [sumF]; omega
    · have h1 := sumJ_part (F := F) (n := n) (k := k) (fun j hj => h j (by omega)) (by omega)
      have := h n (by omega)
      simp only [sumF]; omega
theorem sumJ_ge {F : Nat → Int} {n m : Nat} (h : ∀ j, j < n → 0 ≤ F j) (hm : m < n) : F m ≤ sumF F n := by
  have h1 := (sumJ_part (F := F) (n := n) (k := m) h (by omega)).1
  have h2 := (sumJ_part (F := F) (n := n) (k := m + 1) h hm).2
  simp only [sumF] at h2
  omega
/-- What an eye sees of material m as class c. -/
def jeP (l oss : List (List Int)) (xs : List Int) (m c : Nat) : Int := ix (nextP (rx l m) (rx oss m) (ix xs m)) c
theorem jeP_row {l oss : List (List Int)} {xs : List Int} {m c : Nat} (hc : c < (rx l 0).length) (hm : m < l.length) : ix (rx (seeL l oss xs) c) m = jeP l oss xs m c := by
  rw [rx_seeL hc, ix_range _ _ hm]; rfl
theorem jx_seeL_length {l oss : List (List Int)} {xs : List Int} {c : Nat} (hc : c < (rx l 0).length) : (rx (seeL l oss xs) c).length = l.length := by rw [rx_seeL hc]; simp
theorem Mixes.at {D : Nat → Prop} {w : World} {a : Option Addr} {xss : List (List Int)} (h : Mixes D w a xss) (h0 : 0 < xss.length) : ∃ b off, a = some ⟨b, off, none⟩ ∧ D b ∧ ∀ k, k < xss.length → ∃ a' c', w.cell? ⟨b, off + k, none⟩ = some (.slice a' (rx xss k).length c') ∧ Ints D w a' (rx xss k) :=
  h.2 (by intro e; rw [e] at h0; simp at h0)
theorem Ints.at {D : Nat → Prop} {w : World} {a : Option Addr} {xs : List Int} (h : Ints D w a xs) (h0 : 0 < xs.length) : ∃ b off, a = some ⟨b, off, none⟩ ∧ D b ∧ ∀ k, k < xs.length → w.cell? ⟨b, off + k, none⟩ = some (.int .i64 (ix xs k)) := by
  obtain ⟨b, off, e, hD, hc⟩ := h.2 (by intro e; rw [e] at h0; simp at h0)
  exact ⟨b, off, e, hD, fun k hk => (hc k hk).1⟩

set_option maxRecDepth 100000 in
set_option maxHeartbeats 6400000 in
theorem topJets_fin (a : Option Addr) (c : Nat) (l : List (List Int)) {w : World} (hx : Mixes Any w a l) (_ : l.length ≤ c) (_ : ∀ k y, y ∈ rx l k → I64 y) (D : Int) (_ : I64 D) (H : Int) (_ : I64 H) (R : Int) (_ : I64 R)
    (a2 : Option Addr) (c2 : Nat) (xs : List (List Int)) (hp : Mixes Any w a2 xs) (_ : xs.length ≤ c2) (_ : ∀ k y, y ∈ rx xs k → I64 y) (cls : Int) (_ : I64 cls) (_ : World) :
    Calls Try.prog 3 #[.agg #[.slice a l.length c], .agg #[.int .i64 D, .int .i64 H, .int .i64 R], .slice a2 xs.length c2, .int .i64 cls] w fun e w' => e = .returned (.bool true) ∧ Mod NoBlock w w' := by
  have m0 := ((Mod.refl NoBlock w).alloc (.cells #[.slice a l.length c] 24)).alloc (.cells #[.int .i64 D, .int .i64 H, .int .i64 R] 26)
  have HPw := Lib.hid (hp.mono (D' := fun b => b < w.heap.size) fun b hb _ => hb)
  have HX := Lib.hid ((hx.mono (D' := fun b => b < w.heap.size) fun b hb _ => hb).frame m0)
  have M := Lib.hid m0
  have hB : ((w.alloc (.cells #[.slice a l.length c] 24)).alloc (.cells #[.int .i64 D, .int .i64 H, .int .i64 R] 26)).cell? ⟨w.heap.size, 0, none⟩ = some (.slice a l.length c) := ((Mod.refl NoBlock _).alloc _).cell (cell_new w #[.slice a l.length c] 24 0 _ rfl) id
  have hV := rowIs_new (w.alloc (.cells #[.slice a l.length c] 24)) #[.int .i64 D, .int .i64 H, .int .i64 R] 26
  rw [World.size_alloc] at hV
  have HV := Lib.hid hV
  have hlp := hp.1
  have hll := hx.1
  unfold maxLen at hlp hll
  have hbw : w.heap.size + 1 < ((w.alloc (.cells #[.slice a l.length c] 24)).alloc (.cells #[.int .i64 D, .int .i64 H, .int .i64 R] 26)).heap.size := by simp
  have AW := Lib.hid awakeT_any
  clear hx hp m0 hV
  by_cases hg : (l.length : Int) < 1 ∨ (¬ (l.length : Int) < 1 ∧ 6 < (l.length : Int)) ∨ (¬ (l.length : Int) < 1 ∧ ¬ 6 < (l.length : Int) ∧ 40 < (xs.length : Int))
  · clear HX HV HPw hB hbw
    rcases hg with q | ⟨q, q2⟩ | ⟨q, q2, q3⟩
    all_goals
      go_enter Try.func3, Try.ntmps3
      go_wp2_with fail
      refine (AW.out _).mono ?_; rintro e w9 ⟨rfl, m⟩; have M := Lib.hid (M.out.trans m); clear m
      go_wp2
      go_ret
      exact ⟨rfl, M.out⟩
  have g1 : ¬ (l.length : Int) < 1 := by omega
  have g2 : ¬ 6 < (l.length : Int) := by omega
  have g3 : ¬ 40 < (xs.length : Int) := by omega
  clear hg
  go_enter Try.func3, Try.ntmps3
  go_wp2_with fail
  generalize (w.alloc (.cells #[.slice a l.length c] 24)).alloc (.cells #[.int .i64 D, .int .i64 H, .int .i64 R] 26) = w0 at HX HV M hB hbw ⊢
  by_cases h : camE l l.length = 0
  · have HE := Lib.hid h
    obtain ⟨l1, l16, -, hrow, hlen⟩ := cam_ok h
    have Hok := Lib.hid (EyeOk.new h)
    have l4 := (row_ok (hrow 0 l1)).2.1
    have lN := (row_ok (hrow 0 l1)).1
    clear h hrow hlen
    refine (refCam_any _ _ _ _ _ _ HX.out).mono ?_
    rw [HE.out]
    rintro e w1 ⟨rfl, m1⟩
    replace hbw := Nat.lt_of_lt_of_le hbw m1.size
    replace M := Lib.hid (M.out.trans m1); replace HX := Lib.hid (HX.out.frame m1); replace hB := m1.cell hB id; replace HV := Lib.hid (HV.out.of_block (m1.block _ HV.out.lt id)); clear m1
    have v0 : w1.cell? ⟨w.heap.size + 1, 0, none⟩ = some (.int .i64 D) := HV.out.cell (i := 0) (by simp)
    have v1 : w1.cell? ⟨w.heap.size + 1, 1, none⟩ = some (.int .i64 H) := HV.out.cell (i := 1) (by simp)
    have v2 : w1.cell? ⟨w.heap.size + 1, 2, none⟩ = some (.int .i64 R) := HV.out.cell (i := 2) (by simp)
    by_cases hval : ValOk D H R
    · have HVal := Lib.hid hval
      clear hval
      go_wp2_with fail
      refine (refVal_ok D H R _ HVal.out).mono ?_
      rintro e w2 ⟨rfl, m1⟩
      replace hbw := Nat.lt_of_lt_of_le hbw m1.size
      replace M := Lib.hid (M.out.trans m1); replace HX := Lib.hid (HX.out.frame m1); replace hB := m1.cell hB id; replace HV := Lib.hid (HV.out.of_block (m1.block _ HV.out.lt id)); clear m1 v0 v1 v2
      obtain ⟨b, off, rfl, hbl, hcx⟩ := HX.out.at l1
      obtain ⟨ar0, cr0, hr0, hi0⟩ := hcx 0 l1
      rw [Nat.add_zero] at hr0
      have hm0 := hi0.1
      unfold maxLen at hm0
      have hl0 : (0 : Int) < l.length := by omega
      by_cases hk : cls < 0 ∨ (¬ cls < 0 ∧ ((rx l 0).length : Int) ≤ cls)
      · clear hcx hi0 HX HV
        rcases hk with q | ⟨q, q2⟩
        all_goals
          go_wp2_with fail
          refine (AW.out _).mono ?_; rintro e w9 ⟨rfl, m⟩; have M := Lib.hid (M.out.trans m); clear m
          go_wp2
          go_ret
          exact ⟨rfl, M.out⟩
      · have k1 : ¬ cls < 0 := by omega
        have k2 : ¬ ((rx l 0).length : Int) ≤ cls := by omega
        obtain ⟨K, rfl⟩ : ∃ K : Nat, cls = K := ⟨cls.toNat, by omega⟩
        clear hk hcx hi0
        go_wp2_with fail
        refine (camNew_ok _ _ _ _ _ _ HX.out HE.out).mono ?_
        rintro e w3 ⟨p, rfl, m1, he⟩
        obtain ⟨lo, hlo⟩ : ∃ lo, w2.heap.size = lo := ⟨_, rfl⟩
        obtain ⟨hi, hhi⟩ : ∃ hi, w3.heap.size = hi := ⟨_, rfl⟩
        rw [hlo, hhi] at he
        have hlh : lo ≤ hi := by rw [← hlo, ← hhi]; exact m1.size
        replace hbw : w.heap.size + 1 < lo := by omega
        have HY := Lib.hid he
        have h3 : hi ≤ w3.heap.size := by omega
        replace M := Lib.hid (M.out.trans m1); replace hB := m1.cell hB id; replace hr0 := m1.cell hr0 id; replace HV := Lib.hid (HV.out.of_block (m1.block _ HV.out.lt id)); clear m1 he hlo hhi HX
        obtain ⟨N, hN⟩ : ∃ N, (rx l 0).length = N := ⟨_, rfl⟩
        rw [hN] at hr0 l4 lN k2
        have HNN := Lib.hid hN
        have HB := Lib.hid hB
        have HR0 := Lib.hid hr0
        have N1 : (1 : Int) ≤ N := by omega
        have N4 : (N : Int) ≤ 4 := by omega
        have KN : (K : Int) < (N : Int) := by omega
        have K0 : (0 : Int) ≤ (K : Int) := by omega
        clear hN hB hr0 hm0
        go_wp2
        go_loopw [11, 12, 13, 14, 15, 16, 17, 18, 19, 82] (fun o v12 v13 v14 v15 v16 v17 v18 v19 i wr => ∃ (k : Nat) (oss : List (List Int)) (hs : List Int) (ah : Option Addr) (ch : Nat), k ≤ xs.length ∧ i = .int .i64 k ∧ o = .slice ah hs.length ch ∧ Mod NoBlock w wr ∧ hi ≤ wr.heap.size ∧
            wr.cell? ⟨w.heap.size, 0, none⟩ = some (.slice (some ⟨b, off, none⟩) l.length c) ∧ wr.cell? ⟨b, off, none⟩ = some (.slice ar0 N cr0) ∧ wr.rowIs (w.heap.size + 1) 26 3 (fun i => (#[.int .i64 D, .int .i64 H, .int .i64 R] : Array Value).getD i undef) ∧
            EyeAt wr lo hi p l oss ∧ EyeOk l oss ∧ Own wr hi 3 ah ch (hs.map (Value.int .i64)) ∧ SeenAt k hs) (fun _ _ _ _ _ _ _ _ _ i _ => xs.length - (intOf i).toNat)
        case atStart => exact ⟨0, zeros l, [], none, 0, by omega, rfl, rfl, M.out, h3, HB.out, HR0.out, HV.out, HY.out, Hok.out, Own.nil _ _ _, SeenAt.nil⟩
        case round =>
          clear M HB HR0 HV HY Hok h3
          obtain ⟨k, oss, hs, ah, ch, hk, rfl, rfl, hm, hsz, hbx, hr0, hvv, hey, hok, hown, hsn⟩ := hrel
          have M := Lib.hid hm
          have HB := Lib.hid hbx
          have HR0 := Lib.hid hr0
          have HV := Lib.hid hvv
          have HY := Lib.hid hey
          have Hok := Lib.hid hok
          have HO := Lib.hid hown
          have HSn := Lib.hid hsn
          clear hm hbx hr0 hvv hey hok hown hsn
          obtain ⟨wo, rfl⟩ : ∃ wo : World, wo = wr := ⟨_, rfl⟩
          by_cases hlt : k < xs.length
          · obtain ⟨b2, off2, rfl, hb2, hcl⟩ := (HPw.out.frame M.out).at (by omega)
            obtain ⟨ar, cr, h1, hir⟩ := hcl k hlt
            have HR := Lib.hid hir
            have hlr := hir.1
            unfold maxLen at hlr
            have k0 : (0 : Int) ≤ (k : Int) := by omega
            have kx : (k : Int) < (xs.length : Int) := by omega
            clear hcl hir
            by_cases hE : seeE l.length (rx xs k) = 0
            · obtain ⟨hf, hlx⟩ := seeE_ok hE
              obtain ⟨-, hg⟩ := ok_of_fault hf
              have Hg := Lib.hid hg
              have Hlx := Lib.hid hlx
              have HP := Lib.hid (see_ok lo hi p l oss ar cr (rx xs k) (fun b => b < w.heap.size) wo HY.out HR.out Hok.out (fun b h => by omega) hsz hE)
              rw [hlx, HNN.out] at HP
              rw [hlx] at h1
              clear hf hg hE hlx hlr
              go_wp2_with fail
              refine HP.out.mono ?_
              rintro e w6 ⟨al, cl, rfl, m, hey, hl⟩
              clear HP
              have hsz6 : hi ≤ w6.heap.size := Nat.le_trans hsz m.size
              replace M := Lib.hid (M.out.step m fun b hb h => by omega)
              replace HR := Lib.hid (HR.out.mod m fun b _ h h2 => by omega)
              replace h1 : w6.cell? ⟨b2, off2 + k, none⟩ = some (.slice ar l.length cr) := m.cell h1 (by show ¬ (lo ≤ b2 ∧ b2 < hi); omega)
              have hbx : w6.cell? ⟨w.heap.size, 0, none⟩ = some (.slice (some ⟨b, off, none⟩) l.length c) := m.cell HB.out (by show ¬ (lo ≤ w.heap.size ∧ w.heap.size < hi); omega)
              have hr0 : w6.cell? ⟨b, off, none⟩ = some (.slice ar0 N cr0) := m.cell HR0.out (by show ¬ (lo ≤ b ∧ b < hi); omega)
              replace HV := Lib.hid (HV.out.of_block (m.block _ HV.out.lt (by omega)))
              replace HO := Lib.hid (HO.out.mod m fun b hb h => by have := (HO.out.lt hb).1; omega)
              replace HY := Lib.hid hey
              replace Hok := Lib.hid (Hok.out.see (rx xs k))
              have Hok0 := Lib.hid Hok
              obtain ⟨bo, oo, rfl, hbo, hco⟩ := hl.at (by rw [seeL_length, HNN.out]; exact lN)
              have Hco := Lib.hid (show ∀ q, q < N → ∃ bq oq cq, w6.cell? ⟨bo, oo + q, none⟩ = some (.slice (some ⟨bq, oq, none⟩) l.length cq) ∧ ∀ j, j < l.length → w6.cell? ⟨bq, oq + j, none⟩ = some (.int .i64 (jeP l oss (rx xs k) j q)) from fun q hq => by
                have hq0 : q < (rx l 0).length := by rw [HNN.out]; exact hq
                obtain ⟨aq, cq, h3, h4⟩ := hco q (by rw [seeL_length, HNN.out]; exact hq)
                rw [jx_seeL_length hq0] at h3
                obtain ⟨bq, oq, rfl, _, hcq⟩ := h4.at (by rw [jx_seeL_length hq0]; exact l1)
                exact ⟨bq, oq, cq, h3, fun j hj => by rw [hcq j (by rw [jx_seeL_length hq0]; exact hj), jeP_row hq0 hj]⟩)
              obtain ⟨brx, orx, rfl, hbrx, hcr⟩ := HR.out.at (by rw [Hlx.out]; exact l1)
              have Hcr := Lib.hid (show ∀ j, j < l.length → w6.cell? ⟨brx, orx + j, none⟩ = some (.int .i64 (ix (rx xs k) j)) from fun j hj => hcr j (by rw [Hlx.out]; exact hj))
              have HE1 := Lib.hid (Hok0.out)
              clear m hey hl HB HR0 hco hcr Hok0
              go_wp2
              go_loop [16, 17, 18, 105] (fun v1 v2 v3 i => ∃ m : Nat, m ≤ l.length ∧ i = .int .i64 m) (fun _ _ _ i => l.length - (intOf i).toNat)
              case atStart => exact ⟨0, by omega, rfl⟩
              case round =>
                obtain ⟨m, hm, rfl⟩ := hrel
                by_cases hltm : m < l.length
                · have m0 : (0 : Int) ≤ (m : Int) := by omega
                  have mx : (m : Int) < (l.length : Int) := by omega
                  obtain ⟨g0, g1⟩ := Hg.out m (by rw [Hlx.out]; exact hltm)
                  have hrow0 := HE1.out.out.rows m hltm
                  have hrl := HE1.out.out.same m hltm
                  rw [HNN.out] at hrl
                  have Hsum := Lib.hid (show sumF (jeP l oss (rx xs k) m) N = ix (rx xs k) m by rw [← hrl]; exact next_sum hrow0 g0)
                  have Hlow := Lib.hid (show ∀ c, c < N → 0 ≤ jeP l oss (rx xs k) m c from fun c hc => next_low hrow0 g0 (by rw [hrl]; exact hc))
                  have hcm := Hcr.out m hltm
                  obtain ⟨y, hy⟩ : ∃ y, ix (rx xs k) m = y := ⟨_, rfl⟩
                  rw [hy] at hcm g0 g1 Hsum
                  clear hy hrow0 hrl
                  go_wp2
                  go_loop [17, 18, 110] (fun s u i => ∃ q : Nat, q ≤ N ∧ i = .int .i64 q ∧ s = .int .i64 (sumF (jeP l oss (rx xs k) m) q)) (fun _ _ i => N - (intOf i).toNat)
                  case atStart => exact ⟨0, by omega, rfl, rfl⟩
                  case round =>
                    obtain ⟨q, hq, rfl, rfl⟩ := hrel
                    by_cases hltq : q < N
                    · obtain ⟨bq, oq, cq, h3, hcq⟩ := Hco.out q hltq
                      have h4 := hcq m hltm
                      have v0 := Hlow.out q hltq
                      have v1 := sumJ_ge (F := jeP l oss (rx xs k) m) (fun j hj => Hlow.out j hj) hltq
                      rw [Hsum.out] at v1
                      obtain ⟨s0, s1⟩ := sumJ_part (F := jeP l oss (rx xs k) m) (fun j hj => Hlow.out j hj) hq
                      rw [Hsum.out] at s1
                      have Hss := Lib.hid (show sumF (jeP l oss (rx xs k) m) (q + 1) = sumF (jeP l oss (rx xs k) m) q + jeP l oss (rx xs k) m q from rfl)
                      clear hcq
                      generalize sumF (jeP l oss (rx xs k) m) q = s at s0 s1 Hss
                      generalize jeP l oss (rx xs k) m q = v at h4 v0 v1 Hss
                      have q0 : (0 : Int) ≤ (q : Int) := by omega
                      have qN : (q : Int) < (N : Int) := by omega
                      go_wp2
                      exact ⟨⟨q + 1, by omega, by go_num, by rw [Hss.out]⟩, by simp [intOf]; omega⟩
                    · have hqN : q = N := by omega
                      have hsum := Hsum.out
                      rw [← hqN] at hsum
                      rw [hsum]
                      have kq : (q : Int) = (N : Int) := by omega
                      clear hsum hqN
                      go_wp2
                      exact ⟨⟨m + 1, by omega, by go_num⟩, by simp [intOf]; omega⟩
                · obtain ⟨bq, oq, cq, h3, hcq⟩ := Hco.out K (by omega)
                  have Hcq := Lib.hid hcq
                  clear hcq
                  go_wp2
                  go_loop [11, 19, 143] (fun o v i => ∃ m : Nat, m ≤ l.length ∧ i = .int .i64 m ∧ o = .slice ah hs.length ch) (fun _ _ i => l.length - (intOf i).toNat)
                  case atStart => exact ⟨0, by omega, rfl, rfl⟩
                  case round =>
                    clear hltm hm
                    obtain ⟨m, hm, rfl, rfl⟩ := hrel
                    by_cases hltm : m < l.length
                    · have h4 := Hcq.out m hltm
                      have m0 : (0 : Int) ≤ (m : Int) := by omega
                      have mx : (m : Int) < (l.length : Int) := by omega
                      obtain ⟨v, hv⟩ : ∃ v, jeP l oss (rx xs k) m K = v := ⟨_, rfl⟩
                      rw [hv] at h4
                      clear hv
                      have hhl : hs.length ≤ 40 := by have := HSn.out.len; omega
                      by_cases hpos : 0 < v
                      · have Lk := Lib.hid (show hs.length = (hs.map (Value.int .i64)).length by simp)
                        go_wp2_with (at_builtin; refine wpList_append1 (vs := hs.map (Value.int .i64)) rfl (.tmp 154) (.tmp 156) _ rfl elemInts hs.length 1 (hs.length + 1) 1 [.int .i64 k] rfl rfl Lk.out (by simp) (by omega) (HO.out.alloc _) (Src.one _ _ _) (by simp [Value.oneCell']) (by simp only [maxLen]; omega) (by omega) (by simp; omega) ?_
                                     intro a4 c4 w4 hown4 hgrow4 hat4
                                     have hm4 : Mod (fun b => hi ≤ b) w6 w4 := ((Mod.refl _ w6).alloc _).grown hgrow4 fun b hb => .inl (HO.out.lt hb).1
                                     have HM4 := Lib.hid (show Mod NoBlock w w4 from M.out.step hm4 fun b hb h => by omega)
                                     have HB4 := Lib.hid (hm4.cell hbx (by show ¬ hi ≤ w.heap.size; omega))
                                     have HR4 := Lib.hid (hm4.cell hr0 (by show ¬ hi ≤ b; omega))
                                     have HV4 := Lib.hid (HV.out.of_block (hm4.block _ HV.out.lt (by omega)))
                                     have HY4 := Lib.hid (HY.out.mod hm4 fun b h1 h2 h3 => by omega)
                                     have hs4 := Nat.le_trans hsz6 hm4.size
                                     have HO4 := Lib.hid hown4
                                     clear hown4 hgrow4 hat4 hm4)
                        exact ⟨⟨k + 1, seeO l oss (rx xs k), hs ++ [(k : Int)], a4, c4, by omega, by go_num, by rw [List.length_append]; rfl, HM4.out, hs4, HB4.out, HR4.out, HV4.out, HY4.out, Hok.out, by rw [List.map_append]; exact HO4.out, HSn.out.snoc⟩, by simp [intOf]; omega⟩
                      · go_wp2
                        exact ⟨⟨m + 1, by omega, by go_num, rfl⟩, by simp [intOf]; omega⟩
                    · go_wp2
                      exact ⟨⟨k + 1, seeO l oss (rx xs k), hs, ah, ch, by omega, by go_num, rfl, M.out, hsz6, hbx, hr0, HV.out, HY.out, Hok.out, HO.out, HSn.out.more⟩, by simp [intOf]; omega⟩
            · have HE2 := Lib.hid hE
              have hne : (seeE l.length (rx xs k) != 0) = true := by simpa using hE
              clear hE
              go_wp2_with fail
              refine (see_bad lo hi p l oss ar cr (rx xs k) (fun b => b < w.heap.size) wo HY.out HR.out Hok.out.few HE2.out).mono ?_
              rintro e w6 ⟨rfl, m⟩
              have hsz6 : hi ≤ w6.heap.size := Nat.le_trans hsz m.size
              replace M := Lib.hid (M.out.trans m)
              replace HY := Lib.hid (HY.out.frame m)
              replace HV := Lib.hid (HV.out.of_block (m.block _ HV.out.lt id))
              replace HO := Lib.hid (HO.out.mod m fun _ _ => id)
              replace HB := Lib.hid (m.cell HB.out id)
              replace HR0 := Lib.hid (m.cell HR0.out id)
              clear m h1
              go_wp2
              exact ⟨⟨k + 1, oss, hs, ah, ch, by omega, by go_num, rfl, M.out, hsz6, HB.out, HR0.out, HV.out, HY.out, Hok.out, HO.out, HSn.out.more⟩, by simp [intOf]; omega⟩
          · have hkx : k = xs.length := by omega
            have v0 : wo.cell? ⟨w.heap.size + 1, 0, none⟩ = some (.int .i64 D) := HV.out.cell (i := 0) (by simp)
            have v1 : wo.cell? ⟨w.heap.size + 1, 1, none⟩ = some (.int .i64 H) := HV.out.cell (i := 1) (by simp)
            have v2 : wo.cell? ⟨w.heap.size + 1, 2, none⟩ = some (.int .i64 R) := HV.out.cell (i := 2) (by simp)
            have hst := HSn.out.ok (by omega)
            have HSt := Lib.hid hst
            have hhl : hs.length ≤ 40 := by have := HSn.out.len; omega
            have HI := Lib.hid (HO.out.ints (D := fun b => hi ≤ b) (fun b hb _ => hb) (by simp only [maxLen]; omega))
            clear hst HB HR0 HY Hok HO HSn
            go_wp2_with fail
            refine (plan_ok D H R ah ch hs _ wo HVal.out HI.out HSt.out).mono ?_
            rintro e w4 ⟨aw, cw, n, F, T, rfl, m, hw, hpi⟩
            have HW := Lib.hid hw
            have HPI := Lib.hid hpi
            replace M := Lib.hid (M.out.trans m); replace HI := Lib.hid (HI.out.frame m); replace v0 := m.cell v0 id; replace v1 := m.cell v1 id; replace v2 := m.cell v2 id
            clear m hw hpi
            go_wp2_with fail
            refine (hits_ok D H R aw cw n F T ah ch hs _ w4 HVal.out HI.out HSt.out HW.out HPI.out).mono ?_
            rintro e w5 ⟨a5, c5, rfl, m⟩
            replace M := Lib.hid (M.out.trans m); replace HI := Lib.hid (HI.out.frame m); replace HW := Lib.hid (HW.out.frame m); replace v0 := m.cell v0 id; replace v1 := m.cell v1 id; replace v2 := m.cell v2 id
            clear m
            go_wp2_with fail
            refine (covers_ok D H R aw cw n F T ah ch hs _ w5 HVal.out HI.out HSt.out HW.out HPI.out).mono ?_
            rintro e w6 ⟨rfl, m⟩
            replace M := Lib.hid (M.out.trans m); replace HW := Lib.hid (HW.out.frame m); replace v0 := m.cell v0 id; replace v1 := m.cell v1 id; replace v2 := m.cell v2 id
            clear m HI
            go_wp2_with fail
            refine (rests_ok D H R aw cw n hs.length F T (ix hs) w6 HVal.out HW.out HPI.out (by omega)).mono ?_
            rintro e w7 ⟨rfl, m⟩
            replace M := Lib.hid (M.out.trans m)
            clear m v0 v1 v2 HW
            go_wp2_with fail
            refine (AW.out _).mono ?_; rintro e w9 ⟨rfl, m⟩; have M := Lib.hid (M.out.trans m); clear m
            go_wp2
            go_ret
            exact ⟨rfl, M.out⟩
    · have HVal := Lib.hid hval
      clear hval
      go_wp2_with fail
      refine (refVal_bad D H R _ HVal.out).mono ?_
      rintro e w2 ⟨rfl, m1⟩
      replace M := Lib.hid (M.out.trans m1); clear m1 v0 v1 v2 hB HX HV
      go_wp2_with fail
      refine (AW.out _).mono ?_; rintro e w9 ⟨rfl, m⟩; have M := Lib.hid (M.out.trans m); clear m
      go_wp2
      go_ret
      exact ⟨rfl, M.out⟩
  · have hne : (camE l l.length != 0) = true := by simpa using h
    clear h
    refine (refCam_any _ _ _ _ _ _ HX.out).mono ?_
    rintro e w1 ⟨rfl, m1⟩
    replace M := Lib.hid (M.out.trans m1); clear m1 hB HX HV
    go_wp2_with fail
    refine (AW.out _).mono ?_; rintro e w9 ⟨rfl, m⟩; have M := Lib.hid (M.out.trans m); clear m
    go_wp2
    go_ret
    exact ⟨rfl, M.out⟩

end Go.Proofs.Ytnpdkpbecmpdbaa
