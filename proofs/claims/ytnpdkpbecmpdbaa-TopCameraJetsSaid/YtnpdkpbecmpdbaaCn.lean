/-
  camera: See of an eye, a mix that it takes.
-/
import Derived.Test.YtnpdkpbecmpdbaaCm
set_option linter.unusedVariables false
set_option linter.unusedSimpArgs false
namespace Go.Proofs.Ytnpdkpbecmpdbaa
open Go.RowKit

/-- What is owed, when the first k carries have turned. -/
def mixO (rss oss : List (List Int)) (xs : List Int) (k : Nat) : List (List Int) := (List.range rss.length).map fun j => if j < k then rx (seeO rss oss xs) j else rx oss j
theorem rx_mixO {rss oss : List (List Int)} {xs : List Int} {k j : Nat} (h : j < rss.length) : rx (mixO rss oss xs k) j = if j < k then rx (seeO rss oss xs) j else rx oss j := by
  rw [rx_eq (by simpa [mixO] using h)]; simp [mixO]

set_option maxRecDepth 100000 in
set_option maxHeartbeats 6400000 in
theorem see_ok (lo hi p : Nat) (rss oss : List (List Int)) (a : Option Addr) (c : Nat) (xs : List Int) (D : Nat → Prop) (w : World) (he : EyeAt w lo hi p rss oss) (hx : Ints D w a xs) (hok : EyeOk rss oss) (hD : ∀ b, D b → ¬ (lo ≤ b ∧ b < hi)) (hhi : hi ≤ w.heap.size) (h : seeE rss.length xs = 0) :
    Calls Try.prog 9 #[.pointer (some ⟨p, 0, none⟩), .slice a xs.length c] w fun e w' => ∃ a' c', e = .returned (.tuple #[.slice a' (rx rss 0).length c', .int .i64 0]) ∧
      Mod (fun b => lo ≤ b ∧ b < hi) w w' ∧ EyeAt w' lo hi p rss (seeO rss oss xs) ∧ Mixes (fun b => w.heap.size ≤ b) w' a' (seeL rss oss xs) := by
  obtain ⟨q, cp, g, he⟩ := he
  have HE := Lib.hid he
  have HX := Lib.hid hx
  have HX0 := Lib.hid hx
  have OK := Lib.hid hok
  have HD := Lib.hid hD
  obtain ⟨hf, hlen⟩ := seeE_ok h
  obtain ⟨l16, hg⟩ := ok_of_fault hf
  have Hg := Lib.hid hg
  have Ht := Lib.hid (totL_ok hf)
  obtain ⟨l1, l4, _, _⟩ := row_ok (hok.rows 0 hok.one)
  have hn1 := hok.one
  have hn16 := hok.few
  clear he hx hok hD h hf hg
  obtain ⟨N, hN⟩ : ∃ N, (rx rss 0).length = N := ⟨_, rfl⟩
  obtain ⟨n, hn⟩ : ∃ n, rss.length = n := ⟨_, rfl⟩
  rw [hN] at l1 l4
  rw [hn] at hn1 hn16 hlen
  have n1 : (1 : Int) ≤ n := by omega
  have n16 : (n : Int) ≤ 16 := by omega
  have N1 : (1 : Int) ≤ N := by omega
  have N4 : (N : Int) ≤ 4 := by omega
  have hmk := run_make_row' (P := Try.prog) 27 36 (.slice Option.none 0 0) 24 Try.underlying27 infoMix rfl .i64 .i64 N (by omega) (by omega)
  have hmk2 := run_make_row' (P := Try.prog) 36 3 (.int .i64 0) 8 Try.underlying36 infoInt rfl .i64 .i64 n (by omega) (by omega)
  rw [hlen]
  have Hlen := Lib.hid hlen
  have Hn := Lib.hid hn
  have HN := Lib.hid hN
  clear hlen hn hN
  go_enter Try.func9, Try.ntmps9
  go_wp2_with fail
  refine (show Calls Try.prog 27 #[.slice a n c] w fun e w' => e = .returned (.tuple #[.int .i64 (totL xs).1, .int .i64 0]) ∧ Mod NoBlock w w' from by
    have := matTotal_any a c xs D w HX.out
    rw [Hlen.out, Ht.out] at this
    rw [Ht.out]
    exact this).mono ?_
  rintro e w1 ⟨rfl, m1⟩
  replace HE := Lib.hid (HE.out.mod m1 fun _ _ _ => id)
  replace HX := Lib.hid (HX.out.frame m1)
  have M := Lib.hid m1
  have M0s := m1.size
  have hhi1 : hi ≤ w1.heap.size := Nat.le_trans hhi m1.size
  clear m1 hhi
  have hc0 : w1.cell? ⟨p, 0, none⟩ = some (.slice (some ⟨q, 0, none⟩) n cp) := by have := HE.out.box.cell (i := 0) (by omega); rw [Hn.out] at this; exact this
  have hc1 : w1.cell? ⟨p, 1, none⟩ = some (.int .i64 N) := by have := HE.out.box.cell (i := 1) (by omega); rw [HN.out] at this; exact this
  go_wp2
  have hrow0 := World.rowIs_made w1 (.slice Option.none 0 0) N 36
  have Hrow0 := Lib.hid hrow0
  clear hrow0 hc0 hc1
  go_loopw [9, 42] (fun u i wr => ∃ k : Nat, k ≤ N ∧ i = .int .i64 k ∧ Mod NoBlock w1 wr ∧ Grid wr w1.heap.size wr.heap.size w1.heap.size N k n (fun _ _ => 0)) (fun _ i _ => N - (intOf i).toNat)
  case atStart => exact ⟨0, by omega, rfl, (Mod.refl _ _).alloc _, ⟨_, fun _ => 0, Hrow0.out, fun k hk => absurd hk (by omega), fun k k' hk => absurd hk (by omega)⟩⟩
  case round =>
    clear Hrow0
    obtain ⟨k, hk, rfl, hm, hgr⟩ := hrel
    have Hm := Lib.hid hm
    have Hgr := Lib.hid hgr
    clear hm hgr
    obtain ⟨wo, rfl⟩ : ∃ wo : World, wo = wr := ⟨_, rfl⟩
    by_cases hlt : k < N
    · obtain ⟨hst, hfz⟩ : wo.cell? ⟨w1.heap.size, k, Option.none⟩ ≠ none ∧ wo.frozen? ⟨w1.heap.size, k, Option.none⟩ = false := by
        obtain ⟨f, g, h1, _⟩ := Hgr.out
        exact ⟨by rw [h1.cell hlt]; simp, h1.frozen k⟩
      obtain ⟨v0, hst⟩ := Option.ne_none_iff_exists'.1 hst
      have hblt : w1.heap.size < wo.heap.size := World.block_lt_of_cell? _ _ hst
      go_wp2
      refine ⟨⟨k + 1, by omega, by go_num, (Hm.out.setCell (p := ⟨w1.heap.size, k, Option.none⟩) (.inr (Nat.le_refl _)) _).alloc _, ?_⟩, by simp [intOf]; omega⟩
      exact (Hgr.out.step hlt Hm.out.size).same fun k' j _ _ => by simp
    · have hkn : k = N := by omega
      subst hkn
      replace HE := Lib.hid (HE.out.mod Hm.out fun _ _ _ => id)
      replace HX := Lib.hid (HX.out.frame Hm.out)
      replace M := Lib.hid (M.out.trans Hm.out)
      have hhi2 : hi ≤ wo.heap.size := Nat.le_trans hhi1 Hm.out.size
      have htop := Hm.out.size
      have hc0 : wo.cell? ⟨p, 0, none⟩ = some (.slice (some ⟨q, 0, none⟩) n cp) := by have := HE.out.box.cell (i := 0) (by omega); rw [Hn.out] at this; exact this
      have hww := M.out.size
      clear hlt hk Hm
      go_wp2
      clear hc0
      have hes : EyeIs wo lo hi p q cp g rss (mixO rss oss xs 0) := HE.out.owed (fun j hj => by rw [rx_mixO hj, if_neg (by omega)])
      have Hes := Lib.hid hes
      clear hes HE
      obtain ⟨T, hT⟩ : ∃ T, wo.heap.size = T := ⟨_, rfl⟩
      rw [hT] at Hgr
      have hT1 : T ≤ wo.heap.size := by omega
      have htop1 : w1.heap.size ≤ T := by omega
      go_loopw [10, 11, 12, 13, 14, 15, 16, 57] (fun v0 v1 v2 v3 v4 v5 v6 i wr => ∃ i' : Nat, i' ≤ n ∧ i = .int .i64 i' ∧ Mod (fun b => lo ≤ b ∧ b < hi) w wr ∧ T ≤ wr.heap.size ∧ EyeIs wr lo hi p q cp g rss (mixO rss oss xs i') ∧
          Grid wr w1.heap.size T w1.heap.size k k n (fun c j => if j < i' then ix (nextP (rx rss j) (rx oss j) (ix xs j)) c else 0)) (fun _ _ _ _ _ _ _ i _ => n - (intOf i).toNat)
      case atStart => exact ⟨0, by omega, rfl, M.out.only, hT1, Hes.out, Hgr.out.same fun c j _ _ => rfl⟩
      case round =>
        clear Hes M HX Hgr hT1 hT htop hww hhi2
        clear wo
        obtain ⟨i, hi', rfl, hm, hTs, hes, hgr⟩ := hrel
        have M := Lib.hid hm
        have Hes := Lib.hid hes
        have Hgr := Lib.hid hgr
        clear hm hes hgr
        obtain ⟨wo, rfl⟩ : ∃ wo : World, wo = wr := ⟨_, rfl⟩
        by_cases hlt : i < n
        · have hin : i < rss.length := by rw [Hn.out]; exact hlt
          have hptr := Hes.out.row i hin
          obtain ⟨hcar, hg1, hg2, hg3, hg4⟩ := Hes.out.car i hin
          rw [rx_mixO hin, if_neg (by omega)] at hcar
          obtain ⟨x0, x1⟩ := Hg.out i (by rw [Hlen.out]; exact hlt)
          have hxm := HX0.out.mod M.out (fun b _ hb => HD.out b hb)
          obtain ⟨_, bx, ox, ha, hcl⟩ := hxm.open
          have hcell := hcl i (by rw [Hlen.out]; exact hlt)
          obtain rfl := ha (by intro e; have := Hlen.out; rw [e] at this; simp at this; omega)
          obtain ⟨x, hxd⟩ : ∃ x, ix xs i = x := ⟨_, rfl⟩
          rw [hxd] at hcell x0 x1
          have Hxd := Lib.hid hxd
          have Hnx := Lib.hid (next_any (g i) (rx rss i) (rx oss i) x wo hcar (OK.out.rows i hin) (OK.out.owed i hin) x0 x1)
          have Hsame := Lib.hid (show (rx rss i).length = k by rw [OK.out.same i hin, HN.out])
          clear ha hcl hxd hcar hxm
          go_wp2_with fail
          refine Hnx.out.mono ?_
          rintro e w2 ⟨rfl, m2, hc2, hp2⟩
          rw [Hsame.out]
          have hlo : lo ≤ g i ∧ g i < hi := ⟨hg1, hg2⟩
          have hs2 := m2.size
          have M2 := Lib.hid (show Mod (fun b => lo ≤ b ∧ b < hi) w w2 from M.out.step m2 (fun b _ e => by rw [e]; exact hlo))
          have hmx : ∀ j, j < rss.length → j ≠ i → rx (mixO rss oss xs i) j = rx (mixO rss oss xs (i + 1)) j := fun j hj hne => by
            rw [rx_mixO hj, rx_mixO hj]
            by_cases hj2 : j < i
            · rw [if_pos hj2, if_pos (by omega)]
            · rw [if_neg hj2, if_neg (by omega)]
          have hmi : rx (mixO rss oss xs (i + 1)) i = nextO (rx rss i) (rx oss i) x := by rw [rx_mixO hin, if_pos (by omega), rx_seeO hin, Hxd.out]
          have Hes2 := Lib.hid (Hes.out.turn hin m2 (by rw [hmi]; exact hc2) hmx)
          have Hgr2 := Lib.hid (Hgr.out.modD m2 (Nat.le_refl _) (fun b hb e => by omega))
          have Hp2 := Lib.hid hp2
          have LnP := Lib.hid (show (nextP (rx rss i) (rx oss i) x).length = k by rw [nextP_length]; exact Hsame.out)
          have HXP := Lib.hid (show ∀ c, ix (nextP (rx rss i) (rx oss i) (ix xs i)) c = ix (nextP (rx rss i) (rx oss i) x) c from fun c => by rw [Hxd.out])
          clear m2 hc2 hp2 hmx hmi M Hes Hgr Hnx hptr hcell
          generalize nextP (rx rss i) (rx oss i) x = ps at Hp2 LnP HXP
          obtain ⟨_, bp, op, hap, hcp⟩ := Hp2.out.open
          have hap := hap (by intro e; have := LnP.out; rw [e] at this; simp at this; omega)
          simp only [Option.some.injEq, Addr.mk.injEq, and_true] at hap
          obtain ⟨rfl, rfl⟩ := hap
          have Hcp := Lib.hid hcp
          clear hcp
          go_wp2
          go_loopw [15, 16, 78] (fun u v i' wr => ∃ c' : Nat, c' ≤ k ∧ i' = .int .i64 c' ∧ Mod (fun b => w1.heap.size ≤ b ∧ b < T) w2 wr ∧
              Grid wr w1.heap.size T w1.heap.size k k n (fun c j => if j < i then ix (nextP (rx rss j) (rx oss j) (ix xs j)) c else if j = i ∧ c < c' then ix ps c else 0)) (fun _ _ i' _ => k - (intOf i').toNat)
          case atStart => exact ⟨0, by omega, rfl, Mod.refl _ _, Hgr2.out.same fun c j _ _ => by
            by_cases hj : j < i
            · rw [if_pos hj, if_pos hj]
            · rw [if_neg hj, if_neg hj, if_neg (by omega)]⟩
          case round =>
            clear Hgr2
            obtain ⟨c', hc', rfl, hm, hgr⟩ := hrel
            have M3 := Lib.hid hm
            have Hgr3 := Lib.hid hgr
            clear hm hgr
            by_cases hlt2 : c' < k
            · have h1 := M3.out.cell (Hcp.out c' (by rw [LnP.out]; exact hlt2)) (by show ¬ (_ ∧ wo.heap.size < T); omega)
              rw [Nat.zero_add] at h1
              obtain ⟨gg, k1, k2, k3, k4, k5, k6, k7⟩ := Hgr3.out.at hlt2 (Nat.le_refl _) hlt (Nat.le_refl _)
              have K7 := Lib.hid k7
              obtain ⟨pv, hpv⟩ : ∃ pv, ix ps c' = pv := ⟨_, rfl⟩
              rw [hpv] at h1
              have Hpv := Lib.hid hpv
              clear k7 hpv
              go_wp2
              refine ⟨⟨c' + 1, by omega, by go_num, M3.out.setCell (p := ⟨gg, i, none⟩) (.inl ⟨k2, k3⟩) _, (K7.out pv).same fun c j _ _ => ?_⟩, by simp [intOf]; omega⟩
              show (if c = c' ∧ j = i then pv else _) = _
              by_cases hcj : c = c' ∧ j = i
              · obtain ⟨rfl, rfl⟩ := hcj
                rw [if_pos ⟨rfl, rfl⟩, if_neg (by omega), if_pos ⟨rfl, by omega⟩, Hpv.out]
              · rw [if_neg hcj]
                by_cases hj : j < i
                · rw [if_pos hj, if_pos hj]
                · rw [if_neg hj, if_neg hj]
                  by_cases hd : j = i ∧ c < c'
                  · rw [if_pos hd, if_pos (by omega)]
                  · rw [if_neg hd, if_neg (by omega)]
            · have hck : c' = k := by omega
              subst hck
              have hs3 := M3.out.size
              go_wp2
              refine ⟨⟨i + 1, by omega, by go_num, M2.out.step M3.out (fun b hb h => by have := M0s; omega), by omega, Hes2.out.mod M3.out (fun b h1 h2 h3 => by omega), Hgr3.out.same fun c j hc _ => ?_⟩, by simp [intOf]; omega⟩
              by_cases hj : j < i
              · rw [if_pos hj, if_pos (by omega)]
              · rw [if_neg hj]
                by_cases hji : j = i
                · subst hji
                  rw [if_pos ⟨rfl, hc⟩, if_pos (by omega), HXP.out]
                · rw [if_neg (by omega), if_neg (by omega)]
        · have hin : i = n := by omega
          subst hin
          go_wp2
          go_ret2
          rw [HN.out]
          refine ⟨_, _, rfl, M.out, ⟨q, cp, g, Hes.out.owed fun j hj => ?_⟩, ?_⟩
          · rw [rx_mixO hj, if_pos (by rw [Hn.out] at hj; exact hj)]
          · refine (Hgr.out.mixes (seeL rss oss xs) (Nat.le_refl _) (by simp only [maxLen]; omega) (by simp only [maxLen]; omega) (by rw [seeL_length]; exact HN.out) fun c hc => ?_).mono (fun b _ hb => by have : w1.heap.size ≤ b := hb; omega)
            rw [rx_seeL (by rw [HN.out]; exact hc), Hn.out]
            exact ⟨by simp, fun j hj => by rw [ix_range _ _ hj, if_pos hj]⟩

end Go.Proofs.Ytnpdkpbecmpdbaa
