/-
  Several texts in one.
-/
import Derived.Test.YtnacoglfhhenhaaKq
import Derived.Test.YtnacoglfhhenhaaKz1
import Derived.Deep.RegionHeld3
import Derived.Deep.Upon
import Derived.Test.YtnacoglfhhenhaaKo
import Derived.Deep.DeepCutAuto
import Derived.Deep.CutBlock
set_option linter.unusedVariables false
set_option linter.unusedSimpArgs false
/-
  contract: what an assignment leaves is least.
-/
namespace Go.Proofs.Ytnacoglfhhenhaa
open Go.RowKit

section
variable {g : List (Int × Int)} {l : List Ctr} {bs : List Bal} {cols : List Int}
theorem costs_ix {i j : Nat} (hi : i < l.length) (hj : j < bs.length) : ix (rx (costsL g l bs) i) j = costB g (cx l i) (bx bs j) := by
  unfold costsL
  rw [rowsI_rx hi, rowI_ix hj]
  rfl
theorem skip_ix {i : Nat} (hi : i < l.length) : ix (skipL l) i = missC (cx l i) 0 := by
  unfold skipL
  rw [rowI_ix hi]
  rfl
theorem costB_no {x : Ctr} {y : Bal} (hN : NumC x) : costB g x y = -1 ↔ fitB x g y = false := by
  unfold costB
  cases hf : fitB x g y
  · simp
  · have := missC_bd hN (tot_fit hf).2.1
    rw [if_pos rfl]
    constructor
    · intro h; omega
    · intro h; cases h
theorem okRow_errV {i : Nat} (hN : NumC (cx l i)) (hi : i < l.length) : OkRow g l bs cols i ↔ errV bs.length (costsL g l bs) cols i = 0 := by
  constructor
  · rintro (h | ⟨h0, h1, h2, h3⟩)
    · exact errV_none h
    · obtain ⟨x, hx⟩ : ∃ x : Nat, ix cols i = x := ⟨(ix cols i).toNat, by omega⟩
      rw [hx] at h1 h2 h3
      rw [Int.toNat_natCast] at h2
      refine errV_good hx (by omega) ?_ ?_
      · cases ht : tk cols i x
        · rfl
        · obtain ⟨j, hj, e⟩ := tk_iff.1 ht
          exact absurd e (h3 j hj)
      · rw [costs_ix hi (by omega)]
        intro e
        rw [(costB_no hN).1 e] at h2
        cases h2
  · intro h
    unfold errV at h
    by_cases g1 : ix cols i < -1 ∨ (bs.length : Int) ≤ ix cols i
    · rw [if_pos g1] at h; cases h
    rw [if_neg g1] at h
    by_cases g2 : ix cols i = -1
    · exact .inl g2
    rw [if_neg g2] at h
    cases ht : tk cols i (ix cols i)
    · rw [ht, if_neg (by decide)] at h
      by_cases g3 : ix (rx (costsL g l bs) i) (ix cols i).toNat = -1
      · rw [if_pos g3] at h; cases h
      rw [costs_ix hi (by omega)] at g3
      refine .inr ⟨by omega, by omega, ?_, fun j hj e => ?_⟩
      · cases hf : fitB (cx l i) g (bx bs (ix cols i).toNat)
        · exact absurd ((costB_no hN).2 hf) g3
        · rfl
      · rw [tk_iff.2 ⟨j, hj, e⟩] at ht; cases ht
    · rw [ht, if_pos rfl] at h; cases h
theorem valRow_costV {i : Nat} (hi : i < l.length) (h : OkRow g l bs cols i) : valRow g l bs cols i = costV (costsL g l bs) (skipL l) cols i := by
  unfold valRow costV
  rcases h with h | ⟨h0, h1, _⟩
  · rw [if_pos h, if_pos h, skip_ix hi]
  · rw [if_neg (by omega), if_neg (by omega), costs_ix hi (by omega)]

/-- The assignment is valid, its sum is what is returned, and no other one has less. -/
theorem asg_least {t : Int} (he : errA g l bs = 0) (h : AsgIs g l bs cols t) :
    cols.length = l.length ∧ l.length ≤ 16 ∧ (∀ i, i < l.length → NumC (cx l i)) ∧ (∀ i, i < l.length → OkRow g l bs cols i) ∧ sumR l.length (valRow g l bs cols) = t ∧
      ∀ cols' : List Int, (∀ i, i < l.length → OkRow g l bs cols' i) → t ≤ sumR l.length (valRow g l bs cols') := by
  rcases h with ⟨h, _⟩ | ⟨_, wf, hF, hce⟩
  · exact absurd he h
  unfold errA at he
  by_cases g1 : chkG g = 0
  case neg => rw [if_pos g1] at he; exact absurd he g1
  rw [if_neg (by rw [g1]; decide)] at he
  by_cases g2 : chkC l g.length = 0
  case neg => rw [if_pos g2] at he; exact absurd he g2
  rw [if_neg (by rw [g2]; decide)] at he
  obtain ⟨f1, f2, _⟩ := chkC_facts g2
  have hN : ∀ i, i < l.length → NumC (cx l i) := fun i hi => (ctrE_ok (f2 i hi)).1
  have hp := probOk he
  rw [costsL_length] at hp
  by_cases h0 : l.length = 0
  · have hs : ∀ f, sumR l.length f = 0 := fun f => by rw [h0]; rfl
    have ht := hF.cost
    rw [show cost _ l.length wf = 0 from hs _] at ht
    refine ⟨by rw [hce, rowI_length], f1, hN, fun i hi => by omega, by rw [hs]; exact ht, fun c _ => by rw [hs]; omega⟩
  have hk : (rx (costsL g l bs) 0).length = bs.length := by unfold costsL; rw [rowsI_rx (by omega), rowI_length]
  rw [hk] at hF hce hp
  have hv := hF.val hp he (costsL_length g l bs) hk
  rw [← hce] at hv
  obtain ⟨_, p2, p3, p4⟩ := valM_prob (C := costsL g l bs) (sk := skipL l) (cols := cols) (by rw [hv])
  rw [costsL_length] at p2 p3 p4
  rw [hk] at p3
  have hok : ∀ i, i < l.length → OkRow g l bs cols i := fun i hi => (okRow_errV (hN i hi) hi).2 (p3 i hi)
  refine ⟨by rw [hce, rowI_length], f1, hN, hok, ?_, fun c hc => ?_⟩
  · rw [hv] at p4
    rw [sumR_congr fun i hi => valRow_costV hi (hok i hi)]
    exact p4.symm
  · rw [sumR_congr fun i hi => valRow_costV hi (hc i hi)]
    exact (hF.best hp fun i hi => (okRow_errV (hN i hi) hi).1 (hc i hi)).1
end

end Go.Proofs.Ytnacoglfhhenhaa

/-
  contract: what a further bale does.
-/
namespace Go.Proofs.Ytnacoglfhhenhaa
open Go.RowKit

theorem chkM_okK {C : List (List Int)} {sk : List Int} {n k : Nat} (hR : Rect C n k) (hl : sk.length = n) (n24 : n ≤ 24) (k24 : k ≤ 24) (hn0 : 0 < n) (hc : ∀ r, r < n → ∀ j, j < k → -1 ≤ ix (rx C r) j ∧ ix (rx C r) j ≤ 1000000000)
    (hs : ∀ r, r < n → 0 ≤ ix sk r ∧ ix sk r ≤ 1000000000) : chkM C sk = 0 := by
  obtain ⟨h1, h2⟩ := hR
  rw [chkM_skip (by omega) (by omega) fun i hi => rowE_ok (by rw [h2 i (by omega)]; omega) (by rw [h2 i (by omega), h2 0 hn0]) (badL_none fun j hj => by
    rw [h2 i (by omega)] at hj
    have := hc i (by omega) j hj
    omega)]
  rw [badL_none fun i hi => by have := hs i (by omega); omega]
  rfl
theorem rowsE_one {k : Nat} : ∀ {C : List (List Int)}, (∀ i, i < C.length → rowE k (rx C i) = 0 ∨ rowE k (rx C i) = 1) → (∃ i, i < C.length ∧ rowE k (rx C i) ≠ 0) → rowsE k C = 1
  | [], _, ⟨i, hi, _⟩ => absurd hi (Nat.not_lt_zero i)
  | r :: t, h, ⟨i, hi, hne⟩ => by
    show (if rowE k r = 0 then rowsE k t else rowE k r) = 1
    by_cases h0 : rowE k r = 0
    · rw [if_pos h0]
      cases i with
      | zero => exact absurd h0 hne
      | succ i => exact rowsE_one (fun i hi => h (i + 1) (by simpa using hi)) ⟨i, by simpa using hi, hne⟩
    · rw [if_neg h0]
      exact (h 0 (by simp)).resolve_left h0
theorem bx_left {bs : List Bal} {y : Bal} {k : Nat} (h : k < bs.length) : bx (bs ++ [y]) k = bx bs k := by simp [bx, List.getElem?_append_left h]
section
variable {g : List (Int × Int)} {l : List Ctr} {bs : List Bal}
theorem miss_mono {x : Ctr} (hN : NumC x) {n : Int} (h : 0 ≤ n) : missC x n ≤ missC x 0 := by unfold missC; omega
theorem cost_skip {x : Ctr} {y : Bal} (hN : NumC x) : -1 ≤ costB g x y ∧ costB g x y ≤ missC x 0 := by
  have h0 := missC_bd hN (Int.le_refl 0)
  unfold costB
  cases hf : fitB x g y
  · simp; omega
  · rw [if_pos rfl]
    have h1 := missC_bd hN (tot_fit hf).2.1
    have h2 := miss_mono hN (tot_fit hf).2.1
    omega
/-- Whether the problem's numbers are small enough. -/
theorem chk_costs (hN : ∀ i, i < l.length → NumC (cx l i)) (l16 : l.length ≤ 16) (hb : bs.length ≤ 24) :
    chkM (costsL g l bs) (skipL l) = if (∀ i, i < l.length → missC (cx l i) 0 ≤ 1000000000) then 0 else 1 := by
  have hl := costsL_length g l bs
  have hs := skipL_length l
  have hr : ∀ i, i < l.length → (rx (costsL g l bs) i).length = bs.length := fun i hi => by unfold costsL; rw [rowsI_rx hi, rowI_length]
  by_cases hall : ∀ i, i < l.length → missC (cx l i) 0 ≤ 1000000000
  · rw [if_pos hall]
    by_cases h0 : l.length = 0
    · have e1 : costsL g l bs = [] := List.eq_nil_of_length_eq_zero (by omega)
      have e2 : skipL l = [] := List.eq_nil_of_length_eq_zero (by omega)
      rw [e1, e2]; rfl
    · refine chkM_okK (n := l.length) (k := bs.length) ⟨hl, hr⟩ hs (by omega) (by omega) (by omega) (fun r hr' j hj => ?_) (fun r hr' => ?_)
      · rw [costs_ix hr' hj]
        have := cost_skip (g := g) (y := bx bs j) (hN r hr')
        have := hall r hr'
        omega
      · rw [skip_ix hr']
        have := missC_bd (hN r hr') (Int.le_refl 0)
        have := hall r hr'
        omega
  · rw [if_neg hall]
    have hbad : badL 0 (skipL l) = true := by
      obtain ⟨i, hi⟩ := Classical.not_forall.1 hall
      obtain ⟨hi, h2⟩ := Classical.not_imp.1 hi
      exact badL_at (q := i) (by rw [hs]; exact hi) (.inr (by rw [skip_ix hi]; omega))
    by_cases he : ∀ i, i < (costsL g l bs).length → rowE (rx (costsL g l bs) 0).length (rx (costsL g l bs) i) = 0
    · rw [chkM_skip (by omega) (by omega) he, hbad]; rfl
    · obtain ⟨i, hi⟩ := Classical.not_forall.1 he
      obtain ⟨hi, h2⟩ := Classical.not_imp.1 hi
      have h1 : ∀ i, i < (costsL g l bs).length → rowE (rx (costsL g l bs) 0).length (rx (costsL g l bs) i) = 0 ∨ rowE (rx (costsL g l bs) 0).length (rx (costsL g l bs) i) = 1 := fun i hi => by
        unfold rowE
        rw [if_neg (by rw [hr i (by omega)]; omega), if_neg (by rw [hr i (by omega), hr 0 (by omega)]; omega)]
        cases badL (-1) (rx (costsL g l bs) i)
        · exact .inl rfl
        · exact .inr rfl
      have h3 : rowsE (rx (costsL g l bs) 0).length (costsL g l bs) = 1 := rowsE_one (fun i hi => h1 i hi) ⟨i, hi, h2⟩
      unfold chkM
      rw [if_neg (by omega), if_neg (by omega), if_pos (by rw [h3]; decide), h3]
theorem err_g (g1 : chkG g ≠ 0) : errA g l bs = chkG g := by unfold errA; rw [if_pos g1]
theorem err_c (g1 : chkG g = 0) (g2 : chkC l g.length ≠ 0) : errA g l bs = chkC l g.length := by unfold errA; rw [if_neg (by rw [g1]; decide), if_pos g2]
theorem err_m (g1 : chkG g = 0) (g2 : chkC l g.length = 0) : errA g l bs = chkM (costsL g l bs) (skipL l) := by unfold errA; rw [if_neg (by rw [g1]; decide), if_neg (by rw [g2]; decide)]
/-- A further bale: the same error. -/
theorem err_more {y : Bal} (hb : bs.length ≤ 23) : errA g l bs = errA g l (bs ++ [y]) := by
  by_cases g1 : chkG g = 0
  case neg => rw [err_g g1, err_g g1]
  by_cases g2 : chkC l g.length = 0
  case neg => rw [err_c g1 g2, err_c g1 g2]
  rw [err_m g1 g2, err_m g1 g2]
  obtain ⟨f1, f2, _⟩ := chkC_facts g2
  have hN : ∀ i, i < l.length → NumC (cx l i) := fun i hi => (ctrE_ok (f2 i hi)).1
  rw [chk_costs hN f1 (by omega), chk_costs hN f1 (by simp; omega)]
theorem okRow_more {y : Bal} {cols : List Int} {i : Nat} (h : OkRow g l bs cols i) : OkRow g l (bs ++ [y]) cols i ∧ valRow g l (bs ++ [y]) cols i = valRow g l bs cols i := by
  rcases h with h | ⟨h0, h1, h2, h3⟩
  · exact ⟨.inl h, by unfold valRow; rw [if_pos h, if_pos h]⟩
  · have e : bx (bs ++ [y]) (ix cols i).toNat = bx bs (ix cols i).toNat := bx_left (by omega)
    exact ⟨.inr ⟨h0, by simp; omega, by rw [e]; exact h2, h3⟩, by unfold valRow; rw [if_neg (by omega), if_neg (by omega), e]⟩
/-- A further bale never makes what is missing greater. -/
theorem less_more {y : Bal} {cols cols' : List Int} {t t' : Int} (hb : bs.length ≤ 23) (he : errA g l bs = 0) (h : AsgIs g l bs cols t) (h' : AsgIs g l (bs ++ [y]) cols' t') : t' ≤ t ∧ 0 ≤ t' := by
  obtain ⟨_, l16, hN, hok, hs, _⟩ := asg_least he h
  obtain ⟨_, _, _, hok', hs', hl'⟩ := asg_least (by rw [← err_more hb]; exact he) h'
  refine ⟨?_, ?_⟩
  · rw [← hs, ← sumR_congr fun i hi => (okRow_more (y := y) (hok i hi)).2]
    exact hl' cols fun i hi => (okRow_more (hok i hi)).1
  · rw [← hs']
    exact (sumR_bd (f := valRow g l (bs ++ [y]) cols') (B := 1073741824) fun i hi => valRow_bd (hN i hi) (hok' i hi)).1
end

end Go.Proofs.Ytnacoglfhhenhaa

/-
  contract: the law ContractBale walked.
-/
namespace Go.Proofs.Ytnacoglfhhenhaa
open Go.RowKit

theorem ownsRow_mod {w w' : World} {B e size n : Nat} {v : Value} {xs : List Value} (h : w.ownsRow B e size v n xs) (m : Mod NoBlock w w') : w'.ownsRow B e size v n xs := by
  refine ⟨h.1, ?_⟩
  rcases h.2 with h | ⟨g, cap, cur, h1, h2, h3, h4⟩
  · exact .inl h
  · exact .inr ⟨g, cap, cur, h1, h2, by rw [m.block g (Array.getElem?_eq_some_iff.1 h3).1 id]; exact h3, h4⟩
theorem step_append_own {P : Program} {ops : Array Oper} {o : Oper} {a : Act} {w : World} {K : Act → World → Prop} {Q : Exit → Act → World → Prop} {E : Prop}
    (hw : Region.wanted o (yielded ops a.tmps) = true) (s x : Operand) (t : TypeId) (hop : o.op = Op.call { callee := Callee.builtin Builtin.append, args := #[s, x], argTypes := #[t, t] })
    (e : TypeId) (i : TypeInfo) (z : Value) (size bytes : Nat) (h1 : P.underlying t = some (.slice e)) (h2 : P.info? e = some i) (h3 : i.zero = some z) (h4 : i.size = size) (h5 : i.bytes = bytes) (h6 : z.cells.size = size) (h7 : 0 < size)
    {B : Nat} (v : Value) (n : Nat) (xs : List Value) (hs : a.eval s = v) (hown : w.ownsRow B e size v n xs)
    (ad : Addr) (m c : Nat) (news : List Value) (hx : a.eval x = .slice (some ad) m c) (hn : news.length = m * size) (hc : ∀ j u, news[j]? = some u → w.cell? (ad.add j) = some u) (h1c : ∀ u ∈ news, u.oneCell' = true)
    (b1 : n + m ≤ maxLen) (b2 : (n + m) * bytes ≤ 140737488355328) (hB : B ≤ w.heap.size)
    (hK : ∀ v' w', w'.ownsRow B e size v' (n + m) (xs ++ news) → w.grownBy w' v.ownBlock → K (a.put o.dst v') w') :
    if Region.wanted o (yielded ops a.tmps) = true then Oper.wp P o a w K Q else E := by
  rw [if_pos hw]
  obtain ⟨v', w', hrun, r1, r2, _, _⟩ := run_append_own_at (P := P) (w := w) B t o.type e i z size bytes h1 h2 h3 h4 h5 h6 h7 v n xs hown ad m c news hn hc h1c b1 b2 hB
  subst hs
  unfold Oper.wp
  simp [execOp, hop, resolve, invoke, builtin, hx, hrun, Result.andThen]
  exact hK v' w' r1 r2

theorem flat4 (n : Nat) (f : Nat → List Value) (hf : ∀ k, (f k).length = 4) : ((List.range n).flatMap f).length = n * 4 := by
  induction n with
  | zero => rfl
  | succ n ih =>
    rw [List.range_succ, List.flatMap_append, List.length_append, ih]
    simp [hf]
    omega
/-- The cells of bales. -/
def balV (y : Bal) (a : Option Addr) (c : Nat) : List Value := [.int .i64 y.id, .int .i64 y.mat, .int .i64 y.tm, .slice a y.mix.length c]
theorem Bals.vals {D : Nat → Prop} {w : World} {b off : Nat} {l : List Bal} (h : ∀ k, k < l.length → BalAt D w b (off + k * 4) (bx l k)) :
    ∃ (ad : Nat → Option Addr) (cc : Nat → Nat), (∀ k, k < l.length → Ints D w (ad k) (bx l k).mix) ∧
      ∀ j u, ((List.range l.length).flatMap fun k => balV (bx l k) (ad k) (cc k))[j]? = some u → w.cell? ((⟨b, off, none⟩ : Addr).add j) = some u := by
  have : ∀ k, ∃ p : Option Addr × Nat, k < l.length → Ints D w p.1 (bx l k).mix ∧ ∀ j u, (balV (bx l k) p.1 p.2)[j]? = some u → w.cell? ⟨b, off + k * 4 + j, none⟩ = some u := by
    intro k
    by_cases hk : k < l.length
    · obtain ⟨a', c', h0, h1, h2, h3, h4⟩ := h k hk
      refine ⟨(a', c'), fun _ => ⟨h4, fun j u hu => ?_⟩⟩
      have hj : j < 4 := by
        obtain ⟨hj, _⟩ := List.getElem?_eq_some_iff.1 hu
        simpa [balV] using hj
      rcases (by omega : j = 0 ∨ j = 1 ∨ j = 2 ∨ j = 3) with rfl | rfl | rfl | rfl <;> (simp [balV] at hu; subst hu; first | exact h0 | exact h1 | exact h2 | exact h3)
    · exact ⟨(none, 0), fun h => absurd h hk⟩
  obtain ⟨p, hp⟩ := Classical.axiomOfChoice this
  refine ⟨fun k => (p k).1, fun k => (p k).2, fun k hk => (hp k hk).1, ?_⟩
  have key : ∀ n, n ≤ l.length → ∀ j u, ((List.range n).flatMap fun k => balV (bx l k) (p k).1 (p k).2)[j]? = some u → w.cell? ⟨b, off + j, none⟩ = some u := by
    intro n
    induction n with
    | zero => intro _ j u hu; simp at hu
    | succ n ih =>
      intro hn j u hu
      have hlen : ((List.range n).flatMap fun k => balV (bx l k) (p k).1 (p k).2).length = n * 4 := flat4 _ _ fun _ => rfl
      rw [List.range_succ, List.flatMap_append] at hu
      by_cases hj : j < n * 4
      · rw [List.getElem?_append_left (by rw [hlen]; exact hj)] at hu
        exact ih (by omega) j u hu
      · rw [List.getElem?_append_right (by rw [hlen]; omega), hlen] at hu
        simp only [List.flatMap_cons, List.flatMap_nil, List.append_nil] at hu
        have := (hp n (by omega)).2 _ u hu
        rw [show off + j = off + n * 4 + (j - n * 4) by omega]
        exact this
  intro j u hu
  rw [add_plain]
  exact key _ (Nat.le_refl _) j u hu
theorem balVs_length (l : List Bal) (ad : Nat → Option Addr) (cc : Nat → Nat) : ((List.range l.length).flatMap fun k => balV (bx l k) (ad k) (cc k)).length = l.length * 4 := flat4 _ _ fun _ => rfl
theorem balVs_one (l : List Bal) (ad : Nat → Option Addr) (cc : Nat → Nat) : ∀ u ∈ ((List.range l.length).flatMap fun k => balV (bx l k) (ad k) (cc k)), u.oneCell' = true := by
  intro u hu
  obtain ⟨k, _, h⟩ := List.mem_flatMap.1 hu
  simp only [balV, List.mem_cons, List.not_mem_nil, or_false] at h
  rcases h with rfl | rfl | rfl | rfl <;> rfl
/-- A row of the call's own that holds the cells of bales, and one more: bales. -/
theorem Bals.of_own {w : World} {B n : Nat} {v : Value} {l : List Bal} {y : Bal} {a' : Option Addr} {c' : Nat} {ad : Nat → Option Addr} {cc : Nat → Nat} (h : w.ownsRow B 33 4 v n (((List.range l.length).flatMap fun k => balV (bx l k) (ad k) (cc k)) ++ balV y a' c')) (hn : n = l.length + 1) (hl : l.length < maxLen)
    (hi : ∀ k, k < l.length → Ints Any w (ad k) (bx l k).mix) (hy : Ints Any w a' y.mix) : ∃ a c, v = .slice a (l ++ [y]).length c ∧ Bals Any w a (l ++ [y]) := by
  subst hn
  rcases h.2 with ⟨_, h1⟩ | ⟨g, cap, cur, rfl, _⟩
  · omega
  · have hlen := balVs_length l ad cc
    have hc : ∀ (j : Nat) (u : Value), (((List.range l.length).flatMap fun k => balV (bx l k) (ad k) (cc k)) ++ balV y a' c')[j]? = some u → w.cell? ⟨g, j, none⟩ = some u := fun j u hu => by
      have := h.cells rfl j u hu
      rwa [add_plain, Nat.zero_add] at this
    refine ⟨_, cap, by rw [List.length_append]; rfl, by rw [List.length_append]; simp only [List.length_cons, List.length_nil]; omega, fun _ => ⟨g, 0, rfl, trivial, fun k hk => ?_⟩⟩
    rw [List.length_append] at hk
    simp only [List.length_cons, List.length_nil] at hk
    by_cases hkl : k < l.length
    · rw [bx_left hkl]
      have key : ∀ n, n ≤ l.length → k < n → ∀ i, i < 4 → ((List.range n).flatMap fun k => balV (bx l k) (ad k) (cc k))[k * 4 + i]? = (balV (bx l k) (ad k) (cc k))[i]? := by
        intro n
        induction n with
        | zero => intro _ h; omega
        | succ n ih =>
          intro hn hk2 i hi4
          have hlen2 : ((List.range n).flatMap fun k => balV (bx l k) (ad k) (cc k)).length = n * 4 := flat4 _ _ fun _ => rfl
          rw [List.range_succ, List.flatMap_append]
          by_cases e : k < n
          · rw [List.getElem?_append_left (by rw [hlen2]; omega)]
            exact ih (by omega) e i hi4
          · obtain rfl : k = n := by omega
            rw [List.getElem?_append_right (by rw [hlen2]; omega), hlen2]
            simp only [List.flatMap_cons, List.flatMap_nil, List.append_nil]
            rw [show k * 4 + i - k * 4 = i by omega]
      have kk := key l.length (Nat.le_refl _) hkl
      have cc' : ∀ i u, i < 4 → (balV (bx l k) (ad k) (cc k))[i]? = some u → w.cell? ⟨g, 0 + k * 4 + i, none⟩ = some u := fun i u hi4 hu => by
        rw [Nat.zero_add]
        exact hc _ u (by rw [List.getElem?_append_left (by rw [hlen]; omega), kk i hi4, hu])
      exact ⟨ad k, cc k, cc' 0 _ (by omega) rfl, cc' 1 _ (by omega) rfl, cc' 2 _ (by omega) rfl, cc' 3 _ (by omega) rfl, hi k hkl⟩
    · obtain rfl : k = l.length := by omega
      rw [show bx (l ++ [y]) l.length = y by simp [bx]]
      have cc' : ∀ i u, i < 4 → (balV y a' c')[i]? = some u → w.cell? ⟨g, 0 + l.length * 4 + i, none⟩ = some u := fun i u hi4 hu => by
        rw [Nat.zero_add]
        exact hc _ u (by rw [List.getElem?_append_right (by rw [hlen]; omega), hlen, show l.length * 4 + i - l.length * 4 = i by omega, hu])
      exact ⟨a', c', cc' 0 _ (by omega) rfl, cc' 1 _ (by omega) rfl, cc' 2 _ (by omega) rfl, cc' 3 _ (by omega) rfl, hy⟩

end Go.Proofs.Ytnacoglfhhenhaa

/-
  contract: the law ContractBale walked: the appends.
-/
namespace Go.Proofs.Ytnacoglfhhenhaa
open Go.RowKit

theorem own_ge {w : World} {B e size n : Nat} {v : Value} {xs : List Value} (h : w.ownsRow B e size v n xs) : ∀ k, v.ownBlock = some k → B ≤ k := by
  intro k hk
  rcases h.2 with ⟨rfl, _⟩ | ⟨g, cap, cur, rfl, hg, _⟩
  · cases hk
  · cases hk; exact hg
theorem own_none {w : World} {B e size : Nat} {g : Nat} (hB : B ≤ w.heap.size) (hg : g = w.heap.size) : (w.alloc (.cells #[] e)).ownsRow B e size (.slice (some ⟨g, 0, none⟩) 0 0) 0 [] := by
  subst hg
  exact ⟨by simp, .inr ⟨_, 0, #[], rfl, hB, heap_alloc_new w _, Nat.le_refl _, by simp [maxLen], by simp, by simp⟩⟩
theorem own_sl {w : World} {B e size n : Nat} {v : Value} {xs : List Value} (h : w.ownsRow B e size v n xs) : ∃ b k c, v = .slice b k c ∧ k ≤ c := by
  rcases h.2 with ⟨rfl, _⟩ | ⟨g, cap, cur, rfl, _, _, h4, _⟩
  · exact ⟨_, _, _, rfl, Nat.le_refl _⟩
  · exact ⟨_, _, _, rfl, h4⟩
/-- What an append to a row of the call's own leaves. -/
structure Grew (w0 w : World) (v : Value) (v' : Value) (w' : World) (n : Nat) (xs : List Value) : Prop where
  own : w'.ownsRow w0.heap.size 33 4 v' n xs
  mod : Mod NoBlock w0 w'
  blk : ∀ k, k < w.heap.size → some k ≠ v.ownBlock → w'.heap[k]? = w.heap[k]?
theorem step_append_bales {P : Program} {ops : Array Oper} {o : Oper} {a : Act} {w w0 : World} {K : Act → World → Prop} {Q : Exit → Act → World → Prop} {E : Prop}
    (hw : Region.wanted o (yielded ops a.tmps) = true) (s x : Operand) (t : TypeId) (hop : o.op = Op.call { callee := Callee.builtin Builtin.append, args := #[s, x], argTypes := #[t, t] })
    (i : TypeInfo) (z : Value) (bytes : Nat) (h1 : P.underlying t = some (.slice 33)) (h2 : P.info? 33 = some i) (h3 : i.zero = some z) (h4 : i.size = 4) (h5 : i.bytes = bytes) (h6 : z.cells.size = 4)
    (m0 : Mod NoBlock w0 w) (v : Value) (n : Nat) (xs : List Value) (hs : a.eval s = v) (hsl : ∃ b k c, v = .slice b k c ∧ k ≤ c) (hown : w.ownsRow w0.heap.size 33 4 v n xs)
    (ax : Option Addr) (m c : Nat) (news : List Value) (hx : a.eval x = .slice ax m c) (hn : news.length = m * 4) (hc : m ≠ 0 → ∃ ad, ax = some ad ∧ ∀ j u, news[j]? = some u → w.cell? (ad.add j) = some u) (h1c : ∀ u ∈ news, u.oneCell' = true)
    (b1 : n + m ≤ maxLen) (b2 : (n + m) * bytes ≤ 140737488355328)
    (hK : ∀ v' w', Grew w0 w v v' w' (n + m) (xs ++ news) → K (a.put o.dst v') w') :
    if Region.wanted o (yielded ops a.tmps) = true then Oper.wp P o a w K Q else E := by
  by_cases hm : m = 0
  · subst hm
    have hnil : news = [] := List.eq_nil_of_length_eq_zero (by omega)
    subst hnil
    obtain ⟨b, k, c', rfl, hkc⟩ := hsl
    rw [if_pos hw]
    have hsrc : _root_.Go.Src P i.size t (.slice ax 0 c) 0 [] w := by
      refine ⟨.inl ⟨_, h1⟩, fun w' => ?_, ?_, ?_, by simp, by simp⟩
      all_goals first | rfl | (cases ax <;> simp [Builtin.firstCells] <;> rfl) | (cases ax <;> simp [Builtin.lenOf])
    have hrun := run_append_nothing w t t o.type _ i h1 h2 b k c' hkc (.slice ax 0 c) hsrc
    unfold Oper.wp
    simp [execOp, hop, resolve, invoke, builtin, hs, hx, hrun, Result.andThen]
    exact hK _ _ ⟨by simpa using hown, m0, fun _ _ _ => rfl⟩
  · obtain ⟨ad, rfl, hcell⟩ := hc hm
    exact step_append_own hw s x t hop _ i z 4 bytes h1 h2 h3 h4 h5 h6 (by omega) v n xs hs hown ad m c news hx hn hcell h1c b1 b2 m0.size fun v' w' r1 r2 => hK v' w' ⟨r1, m0.grown r2 fun k e => .inr (own_ge hown k e), r2.block⟩

end Go.Proofs.Ytnacoglfhhenhaa

/-
  contract: a slice of bales that came in, with the length of its datum.
-/
namespace Go.Proofs.Ytnacoglfhhenhaa
open Go.ChangeShapes Go.WideShapes Go.ChangeAt Go.RowKit Go.Deep

section
variable {H : Type} {enc : TypeId × Value → H} {W : World} {base : Nat} {r : Reach}
theorem open_BalsC {v : Value} {d : DataW H} {p : List MemPlace} (hv : Value.okWide Try.prog W r base 35 v) (h : DataW.Trod enc Try.prog W 0 (fun _ => true) true 35 v d p) (hfz : W.noneFrozen p) :
    ∃ a c l, v = .slice a l.length c ∧ Bals Any W a l ∧ l.length ≤ c ∧ (l = [] ∨ ∃ elems spare, d = .slice elems spare ∧ elems.length = l.length) := by
  obtain ⟨a0, len, cap, rfl⟩ := okWide_slice Try.underlying35 hv
  obtain ⟨fuel, hf⟩ := h
  rcases open_slice Try.underlying35 hf with ⟨hcs, hx⟩ | ⟨a, l, c, m, n, D, Pl, hcs, _, hl, hm, hmm, hx, hi⟩
  · simp [Value.cells] at hcs
    obtain ⟨rfl, rfl, rfl⟩ := hcs
    exact ⟨Option.none, 0, [], rfl, Bals.nil _ _ _, Nat.le_refl _, .inl rfl⟩
  · simp [Value.cells] at hcs
    obtain ⟨rfl, rfl, rfl⟩ := hcs
    simp only [if_true] at hmm
    subst hmm
    simp only [Prod.mk.injEq] at hx
    have ce : Try.prog.cellsOf 33 = 4 := by kernel_rfl
    rw [ce] at hi
    have each : ∀ k, k < len → ∃ y : Bal, ∃ (a' : Option Addr) (c' : Nat), (∀ j u, ([.int .i64 y.id, .int .i64 y.mat, .int .i64 y.tm, .slice a' y.mix.length c'] : List Value)[j]? = some u → W.cell? ((a.add (k * 4)).add j) = some u) ∧ Ints Any W a' y.mix := by
      intro k hk
      obtain ⟨cs', h1, h2⟩ := hi k (by omega)
      obtain ⟨y, a', c', rfl, hb⟩ := bal_of_trod h2 (fun b off hp => hfz b off (by
        rw [hx.2]
        exact List.mem_append_right _ (List.mem_flatMap.2 ⟨k, List.mem_range.2 (by omega), hp⟩)))
      exact ⟨y, a', c', fun j u hu => ((World.cells?_some h1).2.2 j (by obtain ⟨hj, _⟩ := List.getElem?_eq_some_iff.1 hu; simpa using hj)).trans hu, hb⟩
    obtain ⟨y, hy⟩ := choose_lk each
    have hlen : ((List.range len).map y).length = len := by simp
    refine ⟨some a, m, (List.range len).map y, by rw [hlen], ⟨by rw [hlen]; omega, fun hne => ?_⟩, by rw [hlen]; exact hl, .inr ⟨_, _, hx.1, by simp⟩⟩
    have h0' : 0 < len := by
      have := List.length_pos_iff.2 hne
      omega
    obtain ⟨b, off, spot⟩ := a
    obtain ⟨a9, c9, h9, _⟩ := hy 0 h0'
    have hspot : spot = none := by simpa [Addr.add] using World.cell?_spot (h9 0 _ rfl)
    subst hspot
    refine ⟨b, off, rfl, trivial, fun k hk => ?_⟩
    rw [hlen] at hk
    rw [show bx ((List.range len).map y) k = y k by simp [bx, hk]]
    obtain ⟨a', c', hc, hb⟩ := hy k hk
    have g : ∀ j u, ([.int .i64 (y k).id, .int .i64 (y k).mat, .int .i64 (y k).tm, .slice a' (y k).mix.length c'] : List Value)[j]? = some u → W.cell? ⟨b, off + k * 4 + j, none⟩ = some u := fun j u hu => by
      have := hc j u hu
      rwa [add_plain, add_plain] at this
    exact ⟨a', c', g 0 _ rfl, g 1 _ rfl, g 2 _ rfl, g 3 _ rfl, hb⟩
end

end Go.Proofs.Ytnacoglfhhenhaa

/-
  contract: the law ContractBale walked.
-/
namespace Go.Proofs.Ytnacoglfhhenhaa
open Go.RowKit

section
variable {P : Program} {md : Region.Mode} {l : List Oper} {Q : Exit → Act → World → Prop} {S : World → Prop} {i j : Nat} {oi oj : Oper} {r r' : List Oper} {v : Value} {fuel : Nat} {listed : Array Bool} {a : Act} {w : World}
theorem drop_at {l : List Oper} {i : Nat} {o : Oper} {r : List Oper} (hd : l.drop i = o :: r) : l.toArray[i]? = some o := by
  have h : (l.drop i)[0]? = some o := by rw [hd]; rfl
  rw [List.getElem?_drop] at h
  simpa using h
/-- An operation of a drawn region that may be taken first: by hand. -/
theorem hand_take (hd : l.drop i = oi :: r) (hs : Region.noSelect l.toArray = true) (hf : Region.free md l.toArray listed i = true) (hr : (Region.ready md l.toArray listed).contains i = true)
    (hQ : ∀ c a w, Q (.panic c) (a.put oi.dst v) w → Q (.panic c) a w) (hy : YieldsIf P l.toArray S oi v a) (hS : S w)
    (h : wpAnyH P md l.toArray Q S fuel (listed.setIfInBounds i true) (a.put oi.dst v) w) : wpAnyH P md l.toArray Q S (fuel + 1) listed a w :=
  wpAnyH_take (drop_at hd) hs hf hr hQ hy hS h
/-- One operation alone may come up. -/
theorem hand_one (hd : l.drop i = oi :: r) (hr : Region.ready md l.toArray listed = [i])
    (h : ∀ K' : Act → World → Prop, Shut (∀ a w, S w → (S w → wpAnyH P md l.toArray Q S fuel (listed.setIfInBounds i true) a w) → K' a w) → if Region.wanted oi (yielded l.toArray a.tmps) = true then Oper.wp P oi a w K' Q else K' (a.put oi.dst undef) w) :
    wpAnyH P md l.toArray Q S (fuel + 1) listed a w :=
  wpAnyH_ready hr (by simp) (AllReadyH.cons (drop_at hd) h AllReadyH.nil)
/-- One of two operations may come up. -/
theorem hand_two (hd : l.drop i = oi :: r) (hd' : l.drop j = oj :: r') (hr : Region.ready md l.toArray listed = [i, j])
    (h : ∀ K' : Act → World → Prop, Shut (∀ a w, S w → (S w → wpAnyH P md l.toArray Q S fuel (listed.setIfInBounds i true) a w) → K' a w) → if Region.wanted oi (yielded l.toArray a.tmps) = true then Oper.wp P oi a w K' Q else K' (a.put oi.dst undef) w)
    (h' : ∀ K' : Act → World → Prop, Shut (∀ a w, S w → (S w → wpAnyH P md l.toArray Q S fuel (listed.setIfInBounds j true) a w) → K' a w) → if Region.wanted oj (yielded l.toArray a.tmps) = true then Oper.wp P oj a w K' Q else K' (a.put oj.dst undef) w) :
    wpAnyH P md l.toArray Q S (fuel + 1) listed a w :=
  wpAnyH_ready hr (by simp) (AllReadyH.cons (drop_at hd) h (AllReadyH.cons (drop_at hd') h' AllReadyH.nil))
end

/-- What the walk needs of the bales: their cells, and that a row of them and one more are bales. -/
structure More (w0 : World) (n : Nat) (aB : Option Addr) (vb : List Value) (bs : List Bal) (y : Bal) (a' : Option Addr) (c' : Nat) : Prop where
  len : vb.length = n * 4
  one : ∀ u ∈ vb, u.oneCell' = true
  at_ : ∀ w', Mod NoBlock w0 w' → n ≠ 0 → ∃ ad, aB = some ad ∧ ∀ j u, vb[j]? = some u → w'.cell? (ad.add j) = some u
  bals : ∀ w' v m xs, Mod NoBlock w0 w' → w'.ownsRow w0.heap.size 33 4 v m xs → m = n + 1 → xs = vb ++ balV y a' c' → ∃ a3 c3, v = .slice a3 (n + 1) c3 ∧ Bals Any w' a3 (bs ++ [y])
theorem more_of {w : World} {aB : Option Addr} {bs : List Bal} {y : Bal} {a' : Option Addr} {c' : Nat} (hb : Bals Any w aB bs) (hy : Ints Any w a' y.mix) (hlt : bs.length < maxLen) : ∃ vb, More w bs.length aB vb bs y a' c' := by
  obtain ⟨lb, bB, oB, haB, hcB⟩ := hb.open
  obtain ⟨ad, cc, hi, hv⟩ := Bals.vals hcB
  refine ⟨_, balVs_length bs ad cc, balVs_one bs ad cc, fun w' m hn => ⟨_, haB (by intro e; subst e; exact hn rfl), fun j u hu => ?_⟩, fun w' v m xs hm hown e1 e2 => ?_⟩
  · have := hv j u hu
    rw [add_plain] at this ⊢
    exact m.cell this id
  · subst e1; subst e2
    obtain ⟨a3, c3, h1, h2⟩ := Bals.of_own hown rfl hlt (fun k hk => (hi k hk).frame hm) (hy.frame hm)
    exact ⟨a3, c3, by rw [h1, List.length_append]; rfl, h2⟩
theorem balV_one (y : Bal) (a' : Option Addr) (c' : Nat) : ∀ u ∈ balV y a' c', u.oneCell' = true := by
  intro u hu
  simp only [balV, List.mem_cons, List.not_mem_nil, or_false] at hu
  rcases hu with rfl | rfl | rfl | rfl <;> rfl

set_option maxRecDepth 100000 in
set_option maxHeartbeats 6400000 in
theorem contractBale_fin (a : Option Addr) (c : Nat) (l : List Ctr) {w : World} (hx : Ctrs Any w a l) (hc : l.length ≤ c) (aG : Option Addr) (cG : Nat) (g : List (Int × Int)) (hg : Grs Any w aG g) (_ : g.length ≤ cG) (aB : Option Addr) (cB : Nat) (bs : List Bal) (hb : Bals Any w aB bs) (hcb : bs.length ≤ cB) (hreach : bs.length * 48 ≤ 140737488351232) (y : Bal) (a' : Option Addr) (c' : Nat) (hm : Ints Any w a' y.mix) (_ : World) :
    Calls Try.prog 9 #[.slice a l.length c, .slice aG g.length cG, .slice aB bs.length cB, .agg #[.int .i64 y.id, .int .i64 y.mat, .int .i64 y.tm, .slice a' y.mix.length c']] w fun e w' => e = .returned (.bool true) ∧ Mod NoBlock w w' := by
  have m0 := (Mod.refl NoBlock w).alloc (.cells #[.int .i64 y.id, .int .i64 y.mat, .int .i64 y.tm, .slice a' y.mix.length c'] 33)
  have B0 := Lib.hid (rowIs_new w #[.int .i64 y.id, .int .i64 y.mat, .int .i64 y.tm, .slice a' y.mix.length c'] 33)
  have HL := Lib.hid (hx.frame m0)
  have HG := Lib.hid (hg.frame m0)
  have HB := Lib.hid (hb.frame m0)
  have HM := Lib.hid (hm.frame m0)
  have Hc := Lib.hid hc
  have M0 := Lib.hid m0
  have lg : g.length ≤ maxLen := hg.1
  have ll : l.length ≤ maxLen := hx.1
  clear m0 hx hg hb hm hc
  go_enter Try.func9, Try.ntmps9
  go_upto_region 1 with fail
  generalize w.alloc (.cells #[.int .i64 y.id, .int .i64 y.mat, .int .i64 y.tm, .slice a' y.mix.length c'] 33) = w0 at B0 HL HG HB HM M0 ⊢
  generalize w.heap.size = gb at B0 ⊢
  obtain ⟨vb, hmore⟩ := more_of (c' := c') HB.out HM.out (by simp only [maxLen]; omega)
  have HMo := Lib.hid hmore
  clear hmore
  obtain ⟨n, hn⟩ : ∃ n, bs.length = n := ⟨_, rfl⟩
  rw [hn] at HMo hreach hcb ⊢
  have Hn := Lib.hid hn
  clear hn
  have t0 : w0.cell? ⟨gb, 0, none⟩ = some (.int .i64 y.id) := B0.out.cell (i := 0) (by show 0 < 4; omega)
  have t1 : w0.cell? ⟨gb, 1, none⟩ = some (.int .i64 y.mat) := B0.out.cell (i := 1) (by show 1 < 4; omega)
  have t2 : w0.cell? ⟨gb, 2, none⟩ = some (.int .i64 y.tm) := B0.out.cell (i := 2) (by show 2 < 4; omega)
  have t3 : w0.cell? ⟨gb, 3, none⟩ = some (.slice a' y.mix.length c') := B0.out.cell (i := 3) (by show 3 < 4; omega)
  have HS0 := Lib.hid t0
  have HS1 := Lib.hid t1
  have HS2 := Lib.hid t2
  have HS3 := Lib.hid t3
  by_cases hF : Few l g (bs ++ [y])
  case neg =>
    have HF := Lib.hid hF
    clear hF
    go_cut [29] (fun s29 wx => s29 = .bool true ∧ Mod NoBlock w0 wx)
    case first =>
      refine wp_region_held_drew (S := (fun w' => w'.cell? ⟨gb, 0, none⟩ = some (.int .i64 y.id) ∧ w'.cell? ⟨gb, 1, none⟩ = some (.int .i64 y.mat) ∧ w'.cell? ⟨gb, 2, none⟩ = some (.int .i64 y.tm) ∧ w'.cell? ⟨gb, 3, none⟩ = some (.slice a' y.mix.length c'))) (by kernel_rfl) ⟨t0, t1, t2, t3⟩ (fun hHeld => ?_)
      refine hand_take (i := 0) (v := ?_) rfl (by kernel_rfl) (by kernel_rfl) (by kernel_rfl) (fun _ _ _ h => h) (Or.inl ⟨by rfl, ?_⟩) (by assumption) ?_
      rotate_left
      · (intro w hSw; (try dsimp only at hSw); go_simp <;> with_reducible rfl)
      (try simp only [Act.put, List.setIfInBounds_toArray, List.set_cons_zero, List.set_cons_succ])
      refine hand_take (i := 1) (v := ?_) rfl (by kernel_rfl) (by kernel_rfl) (by kernel_rfl) (fun _ _ _ h => h) (Or.inl ⟨by rfl, ?_⟩) (by assumption) ?_
      rotate_left
      · (intro w hSw; (try dsimp only at hSw); go_simp <;> with_reducible rfl)
      (try simp only [Act.put, List.setIfInBounds_toArray, List.set_cons_zero, List.set_cons_succ])
      refine hand_take (i := 3) (v := ?_) rfl (by kernel_rfl) (by kernel_rfl) (by kernel_rfl) (fun _ _ _ h => h) (Or.inl ⟨by rfl, ?_⟩) (by assumption) ?_
      rotate_left
      · (intro w hSw; (try dsimp only at hSw); go_simp <;> with_reducible rfl)
      (try simp only [Act.put, List.setIfInBounds_toArray, List.set_cons_zero, List.set_cons_succ])
      refine hand_take (i := 5) (v := ?_) rfl (by kernel_rfl) (by kernel_rfl) (by kernel_rfl) (fun _ _ _ h => h) (Or.inl ⟨by rfl, ?_⟩) (by assumption) ?_
      rotate_left
      · (intro w hSw; (try dsimp only at hSw); go_simp <;> with_reducible rfl)
      (try simp only [Act.put, List.setIfInBounds_toArray, List.set_cons_zero, List.set_cons_succ])
      refine hand_two (i := 2) (j := 6) rfl rfl (by kernel_rfl) (fun K hK => ?_) (fun K hK => ?_)
      · go_simp
        refine hK.out _ _ ?_ (fun hHeld2 => ?_)
        · ((try dsimp only); first | exact ⟨t0, t1, t2, t3⟩ | go_keep)
        clear hK K hHeld
        have hHeld := hHeld2
        clear hHeld2
        (try simp only [Act.put, List.setIfInBounds_toArray, List.set_cons_zero, List.set_cons_succ])
        refine hand_two (i := 4) (j := 6) rfl rfl (by kernel_rfl) (fun K hK => ?_) (fun K hK => ?_)
        · have z0 : w0.cell? _ = _ := t0
          have z1 : w0.cell? _ = _ := t1
          have z2 : w0.cell? _ = _ := t2
          have z3 : w0.cell? _ = _ := t3
          refine step_append_bales (w0 := w0) (by rfl) _ _ 35 rfl _ _ 48 Try.underlying35 rfl rfl rfl rfl rfl (by repeat (first | exact Mod.refl _ _ | exact HG1.out.mod | apply Mod.alloc | apply Mod.drew)) (.slice (some ⟨w0.heap.size, 0, none⟩) 0 0) 0 [] rfl ⟨_, _, _, rfl, Nat.le_refl _⟩ (ownsRow_mod (own_none (w := w0) (Nat.le_refl _) rfl) (by repeat (first | exact Mod.refl _ _ | exact HG1.out.mod | apply Mod.alloc | apply Mod.drew))) aB n cB vb rfl HMo.out.len (HMo.out.at_ _ (by repeat (first | exact Mod.refl _ _ | exact HG1.out.mod | apply Mod.alloc | apply Mod.drew))) HMo.out.one (by simp only [maxLen]; omega) (by omega) ?_
          intro v1 w1 G1
          have HG1 := Lib.hid G1
          replace t0 : w1.cell? ⟨gb, 0, none⟩ = some (.int .i64 y.id) := G1.mod.cell z0 id
          replace t1 : w1.cell? ⟨gb, 1, none⟩ = some (.int .i64 y.mat) := G1.mod.cell z1 id
          replace t2 : w1.cell? ⟨gb, 2, none⟩ = some (.int .i64 y.tm) := G1.mod.cell z2 id
          replace t3 : w1.cell? ⟨gb, 3, none⟩ = some (.slice a' y.mix.length c') := G1.mod.cell z3 id
          clear G1
          clear z0 z1 z2 z3
          refine hK.out _ _ ?_ (fun hHeld2 => ?_)
          · ((try dsimp only); first | exact ⟨t0, t1, t2, t3⟩ | go_keep)
          clear hK K hHeld
          have hHeld := hHeld2
          clear hHeld2
          (try simp only [Act.put, List.setIfInBounds_toArray, List.set_cons_zero, List.set_cons_succ])
          refine hand_one (i := 6) rfl (by kernel_rfl) (fun K hK => ?_)
          go_simp
          refine hK.out _ _ ?_ (fun hHeld2 => ?_)
          · ((try dsimp only); first | exact ⟨t0, t1, t2, t3⟩ | go_keep)
          clear hK K hHeld
          have hHeld := hHeld2
          clear hHeld2
          (try simp only [Act.put, List.setIfInBounds_toArray, List.set_cons_zero, List.set_cons_succ])
          refine hand_one (i := 7) rfl (by kernel_rfl) (fun K hK => ?_)
          have q1 := own_sl HG1.out.own
          refine step_append_bales (w0 := w0) (by rfl) _ _ 35 rfl _ _ 48 Try.underlying35 rfl rfl rfl rfl rfl ?_ v1 (0 + n) ([] ++ vb) rfl q1 ?_ (some ⟨w1.heap.size, 0, none⟩) 1 1 (balV y a' c') rfl rfl ?_ (balV_one y a' c') ?_ ?_ ?_
          clear q1
          · (exact (by repeat (first | exact Mod.refl _ _ | exact HG1.out.mod | apply Mod.alloc | apply Mod.drew)))
          · (exact ownsRow_mod HG1.out.own (by repeat (first | exact Mod.refl _ _ | exact HG1.out.mod | apply Mod.alloc | apply Mod.drew)))
          · (exact fun _ => ⟨_, rfl, row_cells (rowIs_new w1 #[.int .i64 y.id, .int .i64 y.mat, .int .i64 y.tm, .slice a' y.mix.length c'] 33) (by show 4 ≤ 4; omega)⟩)
          · (simp only [maxLen]; omega)
          · (omega)
          intro v2 w2 G2
          obtain ⟨a3, c3, rfl, hbal⟩ := HMo.out.bals _ _ _ _ G2.mod G2.own (by omega) (by simp)
          have HG2 := Lib.hid G2.mod
          have Hf := Lib.hid (few_any (a := a) (aG := aG) (c := c) (cG := cG) (cB := c3) ll lg hbal)
          rw [show (bs ++ [y]).length = n + 1 by rw [List.length_append, Hn.out]; rfl] at Hf
          replace t0 : w2.cell? ⟨gb, 0, none⟩ = some (.int .i64 y.id) := HG2.out.cell HS0.out id
          replace t1 : w2.cell? ⟨gb, 1, none⟩ = some (.int .i64 y.mat) := HG2.out.cell HS1.out id
          replace t2 : w2.cell? ⟨gb, 2, none⟩ = some (.int .i64 y.tm) := HG2.out.cell HS2.out id
          replace t3 : w2.cell? ⟨gb, 3, none⟩ = some (.slice a' y.mix.length c') := HG2.out.cell HS3.out id
          clear hbal G2
          refine hK.out _ _ ?_ (fun hHeld2 => ?_)
          · ((try dsimp only); first | exact ⟨t0, t1, t2, t3⟩ | go_keep)
          clear hK K hHeld
          have hHeld := hHeld2
          clear hHeld2
          (try simp only [Act.put, List.setIfInBounds_toArray, List.set_cons_zero, List.set_cons_succ])
          refine hand_one (i := 8) rfl (by kernel_rfl) (fun K hK => ?_)
          go_simp
          go_at_call 13
          refine Hf.out.mono ?_
          rintro e w3 ⟨r, rfl, hr, m⟩
          obtain rfl : r = false := (by cases r; rfl; exact absurd (hr.1 rfl) HF.out)
          have M3 := Lib.hid (HG2.out.trans m)
          replace t0 : w3.cell? ⟨gb, 0, none⟩ = some (.int .i64 y.id) := m.cell t0 id
          replace t1 : w3.cell? ⟨gb, 1, none⟩ = some (.int .i64 y.mat) := m.cell t1 id
          replace t2 : w3.cell? ⟨gb, 2, none⟩ = some (.int .i64 y.tm) := m.cell t2 id
          replace t3 : w3.cell? ⟨gb, 3, none⟩ = some (.slice a' y.mix.length c') := m.cell t3 id
          clear m hr
          try go_wp2_with fail
          refine hK.out _ _ ?_ (fun hHeld2 => ?_)
          · ((try dsimp only); first | exact ⟨t0, t1, t2, t3⟩ | go_keep)
          clear hK K hHeld
          have hHeld := hHeld2
          clear hHeld2
          (try simp only [Act.put, List.setIfInBounds_toArray, List.set_cons_zero, List.set_cons_succ])
          refine hand_take (i := 9) (v := ?_) rfl (by kernel_rfl) (by kernel_rfl) (by kernel_rfl) (fun _ _ _ h => h) (Or.inl ⟨by rfl, ?_⟩) (by assumption) ?_
          rotate_left
          · (intro w hSw; (try dsimp only at hSw); go_simp <;> with_reducible rfl)
          (try simp only [Act.put, List.setIfInBounds_toArray, List.set_cons_zero, List.set_cons_succ])
          refine hand_take (i := 10) (v := ?_) rfl (by kernel_rfl) (by kernel_rfl) (by kernel_rfl) (fun _ _ _ h => h) (Or.inl ⟨by rfl, ?_⟩) (by assumption) ?_
          rotate_left
          · (intro w hSw; (try dsimp only at hSw); go_simp <;> with_reducible rfl)
          (try simp only [Act.put, List.setIfInBounds_toArray, List.set_cons_zero, List.set_cons_succ])
          refine hand_take (i := 11) (v := undef) rfl (by kernel_rfl) (by kernel_rfl) (by kernel_rfl) (fun _ _ _ h => h) (Or.inr ⟨by rfl, rfl⟩) (by assumption) ?_
          (try simp only [Act.put, List.setIfInBounds_toArray, List.set_cons_zero, List.set_cons_succ])
          refine hand_take (i := 12) (v := undef) rfl (by kernel_rfl) (by kernel_rfl) (by kernel_rfl) (fun _ _ _ h => h) (Or.inr ⟨by rfl, rfl⟩) (by assumption) ?_
          (try simp only [Act.put, List.setIfInBounds_toArray, List.set_cons_zero, List.set_cons_succ])
          refine hand_take (i := 13) (v := undef) rfl (by kernel_rfl) (by kernel_rfl) (by kernel_rfl) (fun _ _ _ h => h) (Or.inr ⟨by rfl, rfl⟩) (by assumption) ?_
          (try simp only [Act.put, List.setIfInBounds_toArray, List.set_cons_zero, List.set_cons_succ])
          refine hand_take (i := 14) (v := ?_) rfl (by kernel_rfl) (by kernel_rfl) (by kernel_rfl) (fun _ _ _ h => h) (Or.inl ⟨by rfl, ?_⟩) (by assumption) ?_
          rotate_left
          · (intro w hSw; (try dsimp only at hSw); go_simp <;> with_reducible rfl)
          (try simp only [Act.put, List.setIfInBounds_toArray, List.set_cons_zero, List.set_cons_succ])
          refine wpAnyH_done (by kernel_rfl) ?_ _
          go_wp2_with fail
          go_meet
          exact ⟨rfl, M3.out⟩
        · go_simp
          refine hK.out _ _ ?_ (fun hHeld2 => ?_)
          · ((try dsimp only); first | exact ⟨t0, t1, t2, t3⟩ | go_keep)
          clear hK K hHeld
          have hHeld := hHeld2
          clear hHeld2
          (try simp only [Act.put, List.setIfInBounds_toArray, List.set_cons_zero, List.set_cons_succ])
          refine hand_one (i := 4) rfl (by kernel_rfl) (fun K hK => ?_)
          have z0 : w0.cell? _ = _ := t0
          have z1 : w0.cell? _ = _ := t1
          have z2 : w0.cell? _ = _ := t2
          have z3 : w0.cell? _ = _ := t3
          refine step_append_bales (w0 := w0) (by rfl) _ _ 35 rfl _ _ 48 Try.underlying35 rfl rfl rfl rfl rfl (by repeat (first | exact Mod.refl _ _ | exact HG1.out.mod | apply Mod.alloc | apply Mod.drew)) (.slice (some ⟨w0.heap.size, 0, none⟩) 0 0) 0 [] rfl ⟨_, _, _, rfl, Nat.le_refl _⟩ (ownsRow_mod (own_none (w := w0) (Nat.le_refl _) rfl) (by repeat (first | exact Mod.refl _ _ | exact HG1.out.mod | apply Mod.alloc | apply Mod.drew))) aB n cB vb rfl HMo.out.len (HMo.out.at_ _ (by repeat (first | exact Mod.refl _ _ | exact HG1.out.mod | apply Mod.alloc | apply Mod.drew))) HMo.out.one (by simp only [maxLen]; omega) (by omega) ?_
          intro v1 w1 G1
          have HR : Hid (w1.rowIs (w0.heap.size + 1) 33 4 (fun i => (#[.int .i64 y.id, .int .i64 y.mat, .int .i64 y.tm, .slice a' y.mix.length c'] : Array Value).getD i undef)) := Lib.hid (by
            have h := (rowIs_new (w0.alloc (.cells #[] 33)) #[.int .i64 y.id, .int .i64 y.mat, .int .i64 y.tm, .slice a' y.mix.length c'] 33).of_block (w' := w1) (G1.blk _ (by show _ < ((w0.alloc (.cells #[] 33)).alloc (.cells #[.int .i64 y.id, .int .i64 y.mat, .int .i64 y.tm, .slice a' y.mix.length c'] 33)).heap.size; simp) (by simp [Value.ownBlock]))
            rw [show (w0.alloc (.cells #[] 33)).heap.size = w0.heap.size + 1 by simp] at h
            exact h)
          have HG1 := Lib.hid G1
          replace t0 : w1.cell? ⟨gb, 0, none⟩ = some (.int .i64 y.id) := G1.mod.cell z0 id
          replace t1 : w1.cell? ⟨gb, 1, none⟩ = some (.int .i64 y.mat) := G1.mod.cell z1 id
          replace t2 : w1.cell? ⟨gb, 2, none⟩ = some (.int .i64 y.tm) := G1.mod.cell z2 id
          replace t3 : w1.cell? ⟨gb, 3, none⟩ = some (.slice a' y.mix.length c') := G1.mod.cell z3 id
          clear G1
          clear z0 z1 z2 z3
          refine hK.out _ _ ?_ (fun hHeld2 => ?_)
          · ((try dsimp only); first | exact ⟨t0, t1, t2, t3⟩ | go_keep)
          clear hK K hHeld
          have hHeld := hHeld2
          clear hHeld2
          (try simp only [Act.put, List.setIfInBounds_toArray, List.set_cons_zero, List.set_cons_succ])
          refine hand_one (i := 7) rfl (by kernel_rfl) (fun K hK => ?_)
          have q1 := own_sl HG1.out.own
          refine step_append_bales (w0 := w0) (by rfl) _ _ 35 rfl _ _ 48 Try.underlying35 rfl rfl rfl rfl rfl ?_ v1 (0 + n) ([] ++ vb) rfl q1 ?_ (some ⟨w0.heap.size + 1, 0, none⟩) 1 1 (balV y a' c') rfl rfl ?_ (balV_one y a' c') ?_ ?_ ?_
          clear q1
          · (exact (by repeat (first | exact Mod.refl _ _ | exact HG1.out.mod | apply Mod.alloc | apply Mod.drew)))
          · (exact ownsRow_mod HG1.out.own (by repeat (first | exact Mod.refl _ _ | exact HG1.out.mod | apply Mod.alloc | apply Mod.drew)))
          · (exact fun _ => ⟨_, rfl, row_cells HR.out (by show 4 ≤ 4; omega)⟩)
          · (simp only [maxLen]; omega)
          · (omega)
          intro v2 w2 G2
          obtain ⟨a3, c3, rfl, hbal⟩ := HMo.out.bals _ _ _ _ G2.mod G2.own (by omega) (by simp)
          have HG2 := Lib.hid G2.mod
          have Hf := Lib.hid (few_any (a := a) (aG := aG) (c := c) (cG := cG) (cB := c3) ll lg hbal)
          rw [show (bs ++ [y]).length = n + 1 by rw [List.length_append, Hn.out]; rfl] at Hf
          replace t0 : w2.cell? ⟨gb, 0, none⟩ = some (.int .i64 y.id) := HG2.out.cell HS0.out id
          replace t1 : w2.cell? ⟨gb, 1, none⟩ = some (.int .i64 y.mat) := HG2.out.cell HS1.out id
          replace t2 : w2.cell? ⟨gb, 2, none⟩ = some (.int .i64 y.tm) := HG2.out.cell HS2.out id
          replace t3 : w2.cell? ⟨gb, 3, none⟩ = some (.slice a' y.mix.length c') := HG2.out.cell HS3.out id
          clear hbal G2
          refine hK.out _ _ ?_ (fun hHeld2 => ?_)
          · ((try dsimp only); first | exact ⟨t0, t1, t2, t3⟩ | go_keep)
          clear hK K hHeld
          have hHeld := hHeld2
          clear hHeld2
          (try simp only [Act.put, List.setIfInBounds_toArray, List.set_cons_zero, List.set_cons_succ])
          refine hand_one (i := 8) rfl (by kernel_rfl) (fun K hK => ?_)
          go_simp
          go_at_call 13
          refine Hf.out.mono ?_
          rintro e w3 ⟨r, rfl, hr, m⟩
          obtain rfl : r = false := (by cases r; rfl; exact absurd (hr.1 rfl) HF.out)
          have M3 := Lib.hid (HG2.out.trans m)
          replace t0 : w3.cell? ⟨gb, 0, none⟩ = some (.int .i64 y.id) := m.cell t0 id
          replace t1 : w3.cell? ⟨gb, 1, none⟩ = some (.int .i64 y.mat) := m.cell t1 id
          replace t2 : w3.cell? ⟨gb, 2, none⟩ = some (.int .i64 y.tm) := m.cell t2 id
          replace t3 : w3.cell? ⟨gb, 3, none⟩ = some (.slice a' y.mix.length c') := m.cell t3 id
          clear m hr
          try go_wp2_with fail
          refine hK.out _ _ ?_ (fun hHeld2 => ?_)
          · ((try dsimp only); first | exact ⟨t0, t1, t2, t3⟩ | go_keep)
          clear hK K hHeld
          have hHeld := hHeld2
          clear hHeld2
          (try simp only [Act.put, List.setIfInBounds_toArray, List.set_cons_zero, List.set_cons_succ])
          refine hand_take (i := 9) (v := ?_) rfl (by kernel_rfl) (by kernel_rfl) (by kernel_rfl) (fun _ _ _ h => h) (Or.inl ⟨by rfl, ?_⟩) (by assumption) ?_
          rotate_left
          · (intro w hSw; (try dsimp only at hSw); go_simp <;> with_reducible rfl)
          (try simp only [Act.put, List.setIfInBounds_toArray, List.set_cons_zero, List.set_cons_succ])
          refine hand_take (i := 10) (v := ?_) rfl (by kernel_rfl) (by kernel_rfl) (by kernel_rfl) (fun _ _ _ h => h) (Or.inl ⟨by rfl, ?_⟩) (by assumption) ?_
          rotate_left
          · (intro w hSw; (try dsimp only at hSw); go_simp <;> with_reducible rfl)
          (try simp only [Act.put, List.setIfInBounds_toArray, List.set_cons_zero, List.set_cons_succ])
          refine hand_take (i := 11) (v := undef) rfl (by kernel_rfl) (by kernel_rfl) (by kernel_rfl) (fun _ _ _ h => h) (Or.inr ⟨by rfl, rfl⟩) (by assumption) ?_
          (try simp only [Act.put, List.setIfInBounds_toArray, List.set_cons_zero, List.set_cons_succ])
          refine hand_take (i := 12) (v := undef) rfl (by kernel_rfl) (by kernel_rfl) (by kernel_rfl) (fun _ _ _ h => h) (Or.inr ⟨by rfl, rfl⟩) (by assumption) ?_
          (try simp only [Act.put, List.setIfInBounds_toArray, List.set_cons_zero, List.set_cons_succ])
          refine hand_take (i := 13) (v := undef) rfl (by kernel_rfl) (by kernel_rfl) (by kernel_rfl) (fun _ _ _ h => h) (Or.inr ⟨by rfl, rfl⟩) (by assumption) ?_
          (try simp only [Act.put, List.setIfInBounds_toArray, List.set_cons_zero, List.set_cons_succ])
          refine hand_take (i := 14) (v := ?_) rfl (by kernel_rfl) (by kernel_rfl) (by kernel_rfl) (fun _ _ _ h => h) (Or.inl ⟨by rfl, ?_⟩) (by assumption) ?_
          rotate_left
          · (intro w hSw; (try dsimp only at hSw); go_simp <;> with_reducible rfl)
          (try simp only [Act.put, List.setIfInBounds_toArray, List.set_cons_zero, List.set_cons_succ])
          refine wpAnyH_done (by kernel_rfl) ?_ _
          go_wp2_with fail
          go_meet
          exact ⟨rfl, M3.out⟩
      · go_simp
        refine hK.out _ _ ?_ (fun hHeld2 => ?_)
        · ((try dsimp only); first | exact ⟨t0, t1, t2, t3⟩ | go_keep)
        clear hK K hHeld
        have hHeld := hHeld2
        clear hHeld2
        (try simp only [Act.put, List.setIfInBounds_toArray, List.set_cons_zero, List.set_cons_succ])
        refine hand_one (i := 2) rfl (by kernel_rfl) (fun K hK => ?_)
        go_simp
        refine hK.out _ _ ?_ (fun hHeld2 => ?_)
        · ((try dsimp only); first | exact ⟨t0, t1, t2, t3⟩ | go_keep)
        clear hK K hHeld
        have hHeld := hHeld2
        clear hHeld2
        (try simp only [Act.put, List.setIfInBounds_toArray, List.set_cons_zero, List.set_cons_succ])
        refine hand_one (i := 4) rfl (by kernel_rfl) (fun K hK => ?_)
        have z0 : w0.cell? _ = _ := t0
        have z1 : w0.cell? _ = _ := t1
        have z2 : w0.cell? _ = _ := t2
        have z3 : w0.cell? _ = _ := t3
        refine step_append_bales (w0 := w0) (by rfl) _ _ 35 rfl _ _ 48 Try.underlying35 rfl rfl rfl rfl rfl (by repeat (first | exact Mod.refl _ _ | exact HG1.out.mod | apply Mod.alloc | apply Mod.drew)) (.slice (some ⟨w0.heap.size + 1, 0, none⟩) 0 0) 0 [] rfl ⟨_, _, _, rfl, Nat.le_refl _⟩ (ownsRow_mod (own_none (w := w0.alloc (.cells #[.int .i64 y.id, .int .i64 y.mat, .int .i64 y.tm, .slice a' y.mix.length c'] 33)) (by simp) (by simp)) (by repeat (first | exact Mod.refl _ _ | exact HG1.out.mod | apply Mod.alloc | apply Mod.drew))) aB n cB vb rfl HMo.out.len (HMo.out.at_ _ (by repeat (first | exact Mod.refl _ _ | exact HG1.out.mod | apply Mod.alloc | apply Mod.drew))) HMo.out.one (by simp only [maxLen]; omega) (by omega) ?_
        intro v1 w1 G1
        have HR : Hid (w1.rowIs w0.heap.size 33 4 (fun i => (#[.int .i64 y.id, .int .i64 y.mat, .int .i64 y.tm, .slice a' y.mix.length c'] : Array Value).getD i undef)) := Lib.hid (((rowIs_new w0 #[.int .i64 y.id, .int .i64 y.mat, .int .i64 y.tm, .slice a' y.mix.length c'] 33).alloc (.cells #[] 33)).of_block (w' := w1) (G1.blk _ (by show _ < ((w0.alloc (.cells #[.int .i64 y.id, .int .i64 y.mat, .int .i64 y.tm, .slice a' y.mix.length c'] 33)).alloc (.cells #[] 33)).heap.size; simp; try omega) (by simp [Value.ownBlock])))
        have HG1 := Lib.hid G1
        replace t0 : w1.cell? ⟨gb, 0, none⟩ = some (.int .i64 y.id) := G1.mod.cell z0 id
        replace t1 : w1.cell? ⟨gb, 1, none⟩ = some (.int .i64 y.mat) := G1.mod.cell z1 id
        replace t2 : w1.cell? ⟨gb, 2, none⟩ = some (.int .i64 y.tm) := G1.mod.cell z2 id
        replace t3 : w1.cell? ⟨gb, 3, none⟩ = some (.slice a' y.mix.length c') := G1.mod.cell z3 id
        clear G1
        clear z0 z1 z2 z3
        refine hK.out _ _ ?_ (fun hHeld2 => ?_)
        · ((try dsimp only); first | exact ⟨t0, t1, t2, t3⟩ | go_keep)
        clear hK K hHeld
        have hHeld := hHeld2
        clear hHeld2
        (try simp only [Act.put, List.setIfInBounds_toArray, List.set_cons_zero, List.set_cons_succ])
        refine hand_one (i := 7) rfl (by kernel_rfl) (fun K hK => ?_)
        have q1 := own_sl HG1.out.own
        refine step_append_bales (w0 := w0) (by rfl) _ _ 35 rfl _ _ 48 Try.underlying35 rfl rfl rfl rfl rfl ?_ v1 (0 + n) ([] ++ vb) rfl q1 ?_ (some ⟨w0.heap.size, 0, none⟩) 1 1 (balV y a' c') rfl rfl ?_ (balV_one y a' c') ?_ ?_ ?_
        clear q1
        · (exact (by repeat (first | exact Mod.refl _ _ | exact HG1.out.mod | apply Mod.alloc | apply Mod.drew)))
        · (exact ownsRow_mod HG1.out.own (by repeat (first | exact Mod.refl _ _ | exact HG1.out.mod | apply Mod.alloc | apply Mod.drew)))
        · (exact fun _ => ⟨_, rfl, row_cells HR.out (by show 4 ≤ 4; omega)⟩)
        · (simp only [maxLen]; omega)
        · (omega)
        intro v2 w2 G2
        obtain ⟨a3, c3, rfl, hbal⟩ := HMo.out.bals _ _ _ _ G2.mod G2.own (by omega) (by simp)
        have HG2 := Lib.hid G2.mod
        have Hf := Lib.hid (few_any (a := a) (aG := aG) (c := c) (cG := cG) (cB := c3) ll lg hbal)
        rw [show (bs ++ [y]).length = n + 1 by rw [List.length_append, Hn.out]; rfl] at Hf
        replace t0 : w2.cell? ⟨gb, 0, none⟩ = some (.int .i64 y.id) := HG2.out.cell HS0.out id
        replace t1 : w2.cell? ⟨gb, 1, none⟩ = some (.int .i64 y.mat) := HG2.out.cell HS1.out id
        replace t2 : w2.cell? ⟨gb, 2, none⟩ = some (.int .i64 y.tm) := HG2.out.cell HS2.out id
        replace t3 : w2.cell? ⟨gb, 3, none⟩ = some (.slice a' y.mix.length c') := HG2.out.cell HS3.out id
        clear hbal G2
        refine hK.out _ _ ?_ (fun hHeld2 => ?_)
        · ((try dsimp only); first | exact ⟨t0, t1, t2, t3⟩ | go_keep)
        clear hK K hHeld
        have hHeld := hHeld2
        clear hHeld2
        (try simp only [Act.put, List.setIfInBounds_toArray, List.set_cons_zero, List.set_cons_succ])
        refine hand_one (i := 8) rfl (by kernel_rfl) (fun K hK => ?_)
        go_simp
        go_at_call 13
        refine Hf.out.mono ?_
        rintro e w3 ⟨r, rfl, hr, m⟩
        obtain rfl : r = false := (by cases r; rfl; exact absurd (hr.1 rfl) HF.out)
        have M3 := Lib.hid (HG2.out.trans m)
        replace t0 : w3.cell? ⟨gb, 0, none⟩ = some (.int .i64 y.id) := m.cell t0 id
        replace t1 : w3.cell? ⟨gb, 1, none⟩ = some (.int .i64 y.mat) := m.cell t1 id
        replace t2 : w3.cell? ⟨gb, 2, none⟩ = some (.int .i64 y.tm) := m.cell t2 id
        replace t3 : w3.cell? ⟨gb, 3, none⟩ = some (.slice a' y.mix.length c') := m.cell t3 id
        clear m hr
        try go_wp2_with fail
        refine hK.out _ _ ?_ (fun hHeld2 => ?_)
        · ((try dsimp only); first | exact ⟨t0, t1, t2, t3⟩ | go_keep)
        clear hK K hHeld
        have hHeld := hHeld2
        clear hHeld2
        (try simp only [Act.put, List.setIfInBounds_toArray, List.set_cons_zero, List.set_cons_succ])
        refine hand_take (i := 9) (v := ?_) rfl (by kernel_rfl) (by kernel_rfl) (by kernel_rfl) (fun _ _ _ h => h) (Or.inl ⟨by rfl, ?_⟩) (by assumption) ?_
        rotate_left
        · (intro w hSw; (try dsimp only at hSw); go_simp <;> with_reducible rfl)
        (try simp only [Act.put, List.setIfInBounds_toArray, List.set_cons_zero, List.set_cons_succ])
        refine hand_take (i := 10) (v := ?_) rfl (by kernel_rfl) (by kernel_rfl) (by kernel_rfl) (fun _ _ _ h => h) (Or.inl ⟨by rfl, ?_⟩) (by assumption) ?_
        rotate_left
        · (intro w hSw; (try dsimp only at hSw); go_simp <;> with_reducible rfl)
        (try simp only [Act.put, List.setIfInBounds_toArray, List.set_cons_zero, List.set_cons_succ])
        refine hand_take (i := 11) (v := undef) rfl (by kernel_rfl) (by kernel_rfl) (by kernel_rfl) (fun _ _ _ h => h) (Or.inr ⟨by rfl, rfl⟩) (by assumption) ?_
        (try simp only [Act.put, List.setIfInBounds_toArray, List.set_cons_zero, List.set_cons_succ])
        refine hand_take (i := 12) (v := undef) rfl (by kernel_rfl) (by kernel_rfl) (by kernel_rfl) (fun _ _ _ h => h) (Or.inr ⟨by rfl, rfl⟩) (by assumption) ?_
        (try simp only [Act.put, List.setIfInBounds_toArray, List.set_cons_zero, List.set_cons_succ])
        refine hand_take (i := 13) (v := undef) rfl (by kernel_rfl) (by kernel_rfl) (by kernel_rfl) (fun _ _ _ h => h) (Or.inr ⟨by rfl, rfl⟩) (by assumption) ?_
        (try simp only [Act.put, List.setIfInBounds_toArray, List.set_cons_zero, List.set_cons_succ])
        refine hand_take (i := 14) (v := ?_) rfl (by kernel_rfl) (by kernel_rfl) (by kernel_rfl) (fun _ _ _ h => h) (Or.inl ⟨by rfl, ?_⟩) (by assumption) ?_
        rotate_left
        · (intro w hSw; (try dsimp only at hSw); go_simp <;> with_reducible rfl)
        (try simp only [Act.put, List.setIfInBounds_toArray, List.set_cons_zero, List.set_cons_succ])
        refine wpAnyH_done (by kernel_rfl) ?_ _
        go_wp2_with fail
        go_meet
        exact ⟨rfl, M3.out⟩
    case rest =>
      obtain ⟨rfl, m1⟩ := hcut
      have M1 := Lib.hid (M0.out.trans m1)
      clear m1
      go_wp2_with (go_at_call 10; refine (awakeK_any _).mono ?_; rintro e w4 ⟨rfl, m⟩)
      have M4 := Lib.hid (M1.out.trans m)
      clear m
      go_wp2_with fail
      go_ret
      exact ⟨rfl, M4.out⟩
  have HF := Lib.hid hF
  have n29 : n + 1 ≤ 30 := by
    have h9 := hF.2.2.1
    rw [List.length_append, Hn.out] at h9
    exact h9
  clear hF
  go_cut [29] (fun s29 wx => s29 = .bool (decide (23 < (n : Int))) ∧ Mod NoBlock w0 wx ∧ wx.cell? ⟨gb, 0, none⟩ = some (.int .i64 y.id) ∧ wx.cell? ⟨gb, 1, none⟩ = some (.int .i64 y.mat) ∧ wx.cell? ⟨gb, 2, none⟩ = some (.int .i64 y.tm) ∧ wx.cell? ⟨gb, 3, none⟩ = some (.slice a' y.mix.length c'))
  case first =>
      refine wp_region_held_drew (S := (fun w' => w'.cell? ⟨gb, 0, none⟩ = some (.int .i64 y.id) ∧ w'.cell? ⟨gb, 1, none⟩ = some (.int .i64 y.mat) ∧ w'.cell? ⟨gb, 2, none⟩ = some (.int .i64 y.tm) ∧ w'.cell? ⟨gb, 3, none⟩ = some (.slice a' y.mix.length c'))) (by kernel_rfl) ⟨t0, t1, t2, t3⟩ (fun hHeld => ?_)
      refine hand_take (i := 0) (v := ?_) rfl (by kernel_rfl) (by kernel_rfl) (by kernel_rfl) (fun _ _ _ h => h) (Or.inl ⟨by rfl, ?_⟩) (by assumption) ?_
      rotate_left
      · (intro w hSw; (try dsimp only at hSw); go_simp <;> with_reducible rfl)
      (try simp only [Act.put, List.setIfInBounds_toArray, List.set_cons_zero, List.set_cons_succ])
      refine hand_take (i := 1) (v := ?_) rfl (by kernel_rfl) (by kernel_rfl) (by kernel_rfl) (fun _ _ _ h => h) (Or.inl ⟨by rfl, ?_⟩) (by assumption) ?_
      rotate_left
      · (intro w hSw; (try dsimp only at hSw); go_simp <;> with_reducible rfl)
      (try simp only [Act.put, List.setIfInBounds_toArray, List.set_cons_zero, List.set_cons_succ])
      refine hand_take (i := 3) (v := ?_) rfl (by kernel_rfl) (by kernel_rfl) (by kernel_rfl) (fun _ _ _ h => h) (Or.inl ⟨by rfl, ?_⟩) (by assumption) ?_
      rotate_left
      · (intro w hSw; (try dsimp only at hSw); go_simp <;> with_reducible rfl)
      (try simp only [Act.put, List.setIfInBounds_toArray, List.set_cons_zero, List.set_cons_succ])
      refine hand_take (i := 5) (v := ?_) rfl (by kernel_rfl) (by kernel_rfl) (by kernel_rfl) (fun _ _ _ h => h) (Or.inl ⟨by rfl, ?_⟩) (by assumption) ?_
      rotate_left
      · (intro w hSw; (try dsimp only at hSw); go_simp <;> with_reducible rfl)
      (try simp only [Act.put, List.setIfInBounds_toArray, List.set_cons_zero, List.set_cons_succ])
      refine hand_two (i := 2) (j := 6) rfl rfl (by kernel_rfl) (fun K hK => ?_) (fun K hK => ?_)
      · go_simp
        refine hK.out _ _ ?_ (fun hHeld2 => ?_)
        · ((try dsimp only); first | exact ⟨t0, t1, t2, t3⟩ | go_keep)
        clear hK K hHeld
        have hHeld := hHeld2
        clear hHeld2
        (try simp only [Act.put, List.setIfInBounds_toArray, List.set_cons_zero, List.set_cons_succ])
        refine hand_two (i := 4) (j := 6) rfl rfl (by kernel_rfl) (fun K hK => ?_) (fun K hK => ?_)
        · have z0 : w0.cell? _ = _ := t0
          have z1 : w0.cell? _ = _ := t1
          have z2 : w0.cell? _ = _ := t2
          have z3 : w0.cell? _ = _ := t3
          refine step_append_bales (w0 := w0) (by rfl) _ _ 35 rfl _ _ 48 Try.underlying35 rfl rfl rfl rfl rfl (by repeat (first | exact Mod.refl _ _ | exact HG1.out.mod | apply Mod.alloc | apply Mod.drew)) (.slice (some ⟨w0.heap.size, 0, none⟩) 0 0) 0 [] rfl ⟨_, _, _, rfl, Nat.le_refl _⟩ (ownsRow_mod (own_none (w := w0) (Nat.le_refl _) rfl) (by repeat (first | exact Mod.refl _ _ | exact HG1.out.mod | apply Mod.alloc | apply Mod.drew))) aB n cB vb rfl HMo.out.len (HMo.out.at_ _ (by repeat (first | exact Mod.refl _ _ | exact HG1.out.mod | apply Mod.alloc | apply Mod.drew))) HMo.out.one (by simp only [maxLen]; omega) (by omega) ?_
          intro v1 w1 G1
          have HG1 := Lib.hid G1
          replace t0 : w1.cell? ⟨gb, 0, none⟩ = some (.int .i64 y.id) := G1.mod.cell z0 id
          replace t1 : w1.cell? ⟨gb, 1, none⟩ = some (.int .i64 y.mat) := G1.mod.cell z1 id
          replace t2 : w1.cell? ⟨gb, 2, none⟩ = some (.int .i64 y.tm) := G1.mod.cell z2 id
          replace t3 : w1.cell? ⟨gb, 3, none⟩ = some (.slice a' y.mix.length c') := G1.mod.cell z3 id
          clear G1
          clear z0 z1 z2 z3
          refine hK.out _ _ ?_ (fun hHeld2 => ?_)
          · ((try dsimp only); first | exact ⟨t0, t1, t2, t3⟩ | go_keep)
          clear hK K hHeld
          have hHeld := hHeld2
          clear hHeld2
          (try simp only [Act.put, List.setIfInBounds_toArray, List.set_cons_zero, List.set_cons_succ])
          refine hand_one (i := 6) rfl (by kernel_rfl) (fun K hK => ?_)
          go_simp
          refine hK.out _ _ ?_ (fun hHeld2 => ?_)
          · ((try dsimp only); first | exact ⟨t0, t1, t2, t3⟩ | go_keep)
          clear hK K hHeld
          have hHeld := hHeld2
          clear hHeld2
          (try simp only [Act.put, List.setIfInBounds_toArray, List.set_cons_zero, List.set_cons_succ])
          refine hand_one (i := 7) rfl (by kernel_rfl) (fun K hK => ?_)
          have q1 := own_sl HG1.out.own
          refine step_append_bales (w0 := w0) (by rfl) _ _ 35 rfl _ _ 48 Try.underlying35 rfl rfl rfl rfl rfl ?_ v1 (0 + n) ([] ++ vb) rfl q1 ?_ (some ⟨w1.heap.size, 0, none⟩) 1 1 (balV y a' c') rfl rfl ?_ (balV_one y a' c') ?_ ?_ ?_
          clear q1
          · (exact (by repeat (first | exact Mod.refl _ _ | exact HG1.out.mod | apply Mod.alloc | apply Mod.drew)))
          · (exact ownsRow_mod HG1.out.own (by repeat (first | exact Mod.refl _ _ | exact HG1.out.mod | apply Mod.alloc | apply Mod.drew)))
          · (exact fun _ => ⟨_, rfl, row_cells (rowIs_new w1 #[.int .i64 y.id, .int .i64 y.mat, .int .i64 y.tm, .slice a' y.mix.length c'] 33) (by show 4 ≤ 4; omega)⟩)
          · (simp only [maxLen]; omega)
          · (omega)
          intro v2 w2 G2
          obtain ⟨a3, c3, rfl, hbal⟩ := HMo.out.bals _ _ _ _ G2.mod G2.own (by omega) (by simp)
          have HG2 := Lib.hid G2.mod
          have Hf := Lib.hid (few_any (a := a) (aG := aG) (c := c) (cG := cG) (cB := c3) ll lg hbal)
          rw [show (bs ++ [y]).length = n + 1 by rw [List.length_append, Hn.out]; rfl] at Hf
          replace t0 : w2.cell? ⟨gb, 0, none⟩ = some (.int .i64 y.id) := HG2.out.cell HS0.out id
          replace t1 : w2.cell? ⟨gb, 1, none⟩ = some (.int .i64 y.mat) := HG2.out.cell HS1.out id
          replace t2 : w2.cell? ⟨gb, 2, none⟩ = some (.int .i64 y.tm) := HG2.out.cell HS2.out id
          replace t3 : w2.cell? ⟨gb, 3, none⟩ = some (.slice a' y.mix.length c') := HG2.out.cell HS3.out id
          clear hbal G2
          refine hK.out _ _ ?_ (fun hHeld2 => ?_)
          · ((try dsimp only); first | exact ⟨t0, t1, t2, t3⟩ | go_keep)
          clear hK K hHeld
          have hHeld := hHeld2
          clear hHeld2
          (try simp only [Act.put, List.setIfInBounds_toArray, List.set_cons_zero, List.set_cons_succ])
          refine hand_one (i := 8) rfl (by kernel_rfl) (fun K hK => ?_)
          go_simp
          go_at_call 13
          refine Hf.out.mono ?_
          rintro e w3 ⟨r, rfl, hr, m⟩
          obtain rfl : r = true := (hr.2 HF.out)
          have M3 := Lib.hid (HG2.out.trans m)
          replace t0 : w3.cell? ⟨gb, 0, none⟩ = some (.int .i64 y.id) := m.cell t0 id
          replace t1 : w3.cell? ⟨gb, 1, none⟩ = some (.int .i64 y.mat) := m.cell t1 id
          replace t2 : w3.cell? ⟨gb, 2, none⟩ = some (.int .i64 y.tm) := m.cell t2 id
          replace t3 : w3.cell? ⟨gb, 3, none⟩ = some (.slice a' y.mix.length c') := m.cell t3 id
          clear m hr
          try go_wp2_with fail
          refine hK.out _ _ ?_ (fun hHeld2 => ?_)
          · ((try dsimp only); first | exact ⟨t0, t1, t2, t3⟩ | go_keep)
          clear hK K hHeld
          have hHeld := hHeld2
          clear hHeld2
          (try simp only [Act.put, List.setIfInBounds_toArray, List.set_cons_zero, List.set_cons_succ])
          refine hand_take (i := 9) (v := ?_) rfl (by kernel_rfl) (by kernel_rfl) (by kernel_rfl) (fun _ _ _ h => h) (Or.inl ⟨by rfl, ?_⟩) (by assumption) ?_
          rotate_left
          · (intro w hSw; (try dsimp only at hSw); go_simp <;> with_reducible rfl)
          (try simp only [Act.put, List.setIfInBounds_toArray, List.set_cons_zero, List.set_cons_succ])
          refine hand_take (i := 10) (v := ?_) rfl (by kernel_rfl) (by kernel_rfl) (by kernel_rfl) (fun _ _ _ h => h) (Or.inl ⟨by rfl, ?_⟩) (by assumption) ?_
          rotate_left
          · (intro w hSw; (try dsimp only at hSw); go_simp <;> with_reducible rfl)
          (try simp only [Act.put, List.setIfInBounds_toArray, List.set_cons_zero, List.set_cons_succ])
          refine hand_take (i := 11) (v := ?_) rfl (by kernel_rfl) (by kernel_rfl) (by kernel_rfl) (fun _ _ _ h => h) (Or.inl ⟨by rfl, ?_⟩) (by assumption) ?_
          rotate_left
          · (intro w hSw; (try dsimp only at hSw); go_simp <;> with_reducible rfl)
          (try simp only [Act.put, List.setIfInBounds_toArray, List.set_cons_zero, List.set_cons_succ])
          refine hand_take (i := 12) (v := ?_) rfl (by kernel_rfl) (by kernel_rfl) (by kernel_rfl) (fun _ _ _ h => h) (Or.inl ⟨by rfl, ?_⟩) (by assumption) ?_
          rotate_left
          · (intro w hSw; (try dsimp only at hSw); go_simp <;> with_reducible rfl)
          (try simp only [Act.put, List.setIfInBounds_toArray, List.set_cons_zero, List.set_cons_succ])
          refine hand_take (i := 13) (v := ?_) rfl (by kernel_rfl) (by kernel_rfl) (by kernel_rfl) (fun _ _ _ h => h) (Or.inl ⟨by rfl, ?_⟩) (by assumption) ?_
          rotate_left
          · (intro w hSw; (try dsimp only at hSw); go_simp <;> with_reducible rfl)
          (try simp only [Act.put, List.setIfInBounds_toArray, List.set_cons_zero, List.set_cons_succ])
          refine hand_take (i := 14) (v := ?_) rfl (by kernel_rfl) (by kernel_rfl) (by kernel_rfl) (fun _ _ _ h => h) (Or.inl ⟨by rfl, ?_⟩) (by assumption) ?_
          rotate_left
          · (intro w hSw; (try dsimp only at hSw); go_simp <;> with_reducible rfl)
          (try simp only [Act.put, List.setIfInBounds_toArray, List.set_cons_zero, List.set_cons_succ])
          refine wpAnyH_done (by kernel_rfl) ?_ _
          go_wp2_with fail
          go_meet
          exact ⟨rfl, M3.out, t0, t1, t2, t3⟩
        · go_simp
          refine hK.out _ _ ?_ (fun hHeld2 => ?_)
          · ((try dsimp only); first | exact ⟨t0, t1, t2, t3⟩ | go_keep)
          clear hK K hHeld
          have hHeld := hHeld2
          clear hHeld2
          (try simp only [Act.put, List.setIfInBounds_toArray, List.set_cons_zero, List.set_cons_succ])
          refine hand_one (i := 4) rfl (by kernel_rfl) (fun K hK => ?_)
          have z0 : w0.cell? _ = _ := t0
          have z1 : w0.cell? _ = _ := t1
          have z2 : w0.cell? _ = _ := t2
          have z3 : w0.cell? _ = _ := t3
          refine step_append_bales (w0 := w0) (by rfl) _ _ 35 rfl _ _ 48 Try.underlying35 rfl rfl rfl rfl rfl (by repeat (first | exact Mod.refl _ _ | exact HG1.out.mod | apply Mod.alloc | apply Mod.drew)) (.slice (some ⟨w0.heap.size, 0, none⟩) 0 0) 0 [] rfl ⟨_, _, _, rfl, Nat.le_refl _⟩ (ownsRow_mod (own_none (w := w0) (Nat.le_refl _) rfl) (by repeat (first | exact Mod.refl _ _ | exact HG1.out.mod | apply Mod.alloc | apply Mod.drew))) aB n cB vb rfl HMo.out.len (HMo.out.at_ _ (by repeat (first | exact Mod.refl _ _ | exact HG1.out.mod | apply Mod.alloc | apply Mod.drew))) HMo.out.one (by simp only [maxLen]; omega) (by omega) ?_
          intro v1 w1 G1
          have HR : Hid (w1.rowIs (w0.heap.size + 1) 33 4 (fun i => (#[.int .i64 y.id, .int .i64 y.mat, .int .i64 y.tm, .slice a' y.mix.length c'] : Array Value).getD i undef)) := Lib.hid (by
            have h := (rowIs_new (w0.alloc (.cells #[] 33)) #[.int .i64 y.id, .int .i64 y.mat, .int .i64 y.tm, .slice a' y.mix.length c'] 33).of_block (w' := w1) (G1.blk _ (by show _ < ((w0.alloc (.cells #[] 33)).alloc (.cells #[.int .i64 y.id, .int .i64 y.mat, .int .i64 y.tm, .slice a' y.mix.length c'] 33)).heap.size; simp) (by simp [Value.ownBlock]))
            rw [show (w0.alloc (.cells #[] 33)).heap.size = w0.heap.size + 1 by simp] at h
            exact h)
          have HG1 := Lib.hid G1
          replace t0 : w1.cell? ⟨gb, 0, none⟩ = some (.int .i64 y.id) := G1.mod.cell z0 id
          replace t1 : w1.cell? ⟨gb, 1, none⟩ = some (.int .i64 y.mat) := G1.mod.cell z1 id
          replace t2 : w1.cell? ⟨gb, 2, none⟩ = some (.int .i64 y.tm) := G1.mod.cell z2 id
          replace t3 : w1.cell? ⟨gb, 3, none⟩ = some (.slice a' y.mix.length c') := G1.mod.cell z3 id
          clear G1
          clear z0 z1 z2 z3
          refine hK.out _ _ ?_ (fun hHeld2 => ?_)
          · ((try dsimp only); first | exact ⟨t0, t1, t2, t3⟩ | go_keep)
          clear hK K hHeld
          have hHeld := hHeld2
          clear hHeld2
          (try simp only [Act.put, List.setIfInBounds_toArray, List.set_cons_zero, List.set_cons_succ])
          refine hand_one (i := 7) rfl (by kernel_rfl) (fun K hK => ?_)
          have q1 := own_sl HG1.out.own
          refine step_append_bales (w0 := w0) (by rfl) _ _ 35 rfl _ _ 48 Try.underlying35 rfl rfl rfl rfl rfl ?_ v1 (0 + n) ([] ++ vb) rfl q1 ?_ (some ⟨w0.heap.size + 1, 0, none⟩) 1 1 (balV y a' c') rfl rfl ?_ (balV_one y a' c') ?_ ?_ ?_
          clear q1
          · (exact (by repeat (first | exact Mod.refl _ _ | exact HG1.out.mod | apply Mod.alloc | apply Mod.drew)))
          · (exact ownsRow_mod HG1.out.own (by repeat (first | exact Mod.refl _ _ | exact HG1.out.mod | apply Mod.alloc | apply Mod.drew)))
          · (exact fun _ => ⟨_, rfl, row_cells HR.out (by show 4 ≤ 4; omega)⟩)
          · (simp only [maxLen]; omega)
          · (omega)
          intro v2 w2 G2
          obtain ⟨a3, c3, rfl, hbal⟩ := HMo.out.bals _ _ _ _ G2.mod G2.own (by omega) (by simp)
          have HG2 := Lib.hid G2.mod
          have Hf := Lib.hid (few_any (a := a) (aG := aG) (c := c) (cG := cG) (cB := c3) ll lg hbal)
          rw [show (bs ++ [y]).length = n + 1 by rw [List.length_append, Hn.out]; rfl] at Hf
          replace t0 : w2.cell? ⟨gb, 0, none⟩ = some (.int .i64 y.id) := HG2.out.cell HS0.out id
          replace t1 : w2.cell? ⟨gb, 1, none⟩ = some (.int .i64 y.mat) := HG2.out.cell HS1.out id
          replace t2 : w2.cell? ⟨gb, 2, none⟩ = some (.int .i64 y.tm) := HG2.out.cell HS2.out id
          replace t3 : w2.cell? ⟨gb, 3, none⟩ = some (.slice a' y.mix.length c') := HG2.out.cell HS3.out id
          clear hbal G2
          refine hK.out _ _ ?_ (fun hHeld2 => ?_)
          · ((try dsimp only); first | exact ⟨t0, t1, t2, t3⟩ | go_keep)
          clear hK K hHeld
          have hHeld := hHeld2
          clear hHeld2
          (try simp only [Act.put, List.setIfInBounds_toArray, List.set_cons_zero, List.set_cons_succ])
          refine hand_one (i := 8) rfl (by kernel_rfl) (fun K hK => ?_)
          go_simp
          go_at_call 13
          refine Hf.out.mono ?_
          rintro e w3 ⟨r, rfl, hr, m⟩
          obtain rfl : r = true := (hr.2 HF.out)
          have M3 := Lib.hid (HG2.out.trans m)
          replace t0 : w3.cell? ⟨gb, 0, none⟩ = some (.int .i64 y.id) := m.cell t0 id
          replace t1 : w3.cell? ⟨gb, 1, none⟩ = some (.int .i64 y.mat) := m.cell t1 id
          replace t2 : w3.cell? ⟨gb, 2, none⟩ = some (.int .i64 y.tm) := m.cell t2 id
          replace t3 : w3.cell? ⟨gb, 3, none⟩ = some (.slice a' y.mix.length c') := m.cell t3 id
          clear m hr
          try go_wp2_with fail
          refine hK.out _ _ ?_ (fun hHeld2 => ?_)
          · ((try dsimp only); first | exact ⟨t0, t1, t2, t3⟩ | go_keep)
          clear hK K hHeld
          have hHeld := hHeld2
          clear hHeld2
          (try simp only [Act.put, List.setIfInBounds_toArray, List.set_cons_zero, List.set_cons_succ])
          refine hand_take (i := 9) (v := ?_) rfl (by kernel_rfl) (by kernel_rfl) (by kernel_rfl) (fun _ _ _ h => h) (Or.inl ⟨by rfl, ?_⟩) (by assumption) ?_
          rotate_left
          · (intro w hSw; (try dsimp only at hSw); go_simp <;> with_reducible rfl)
          (try simp only [Act.put, List.setIfInBounds_toArray, List.set_cons_zero, List.set_cons_succ])
          refine hand_take (i := 10) (v := ?_) rfl (by kernel_rfl) (by kernel_rfl) (by kernel_rfl) (fun _ _ _ h => h) (Or.inl ⟨by rfl, ?_⟩) (by assumption) ?_
          rotate_left
          · (intro w hSw; (try dsimp only at hSw); go_simp <;> with_reducible rfl)
          (try simp only [Act.put, List.setIfInBounds_toArray, List.set_cons_zero, List.set_cons_succ])
          refine hand_take (i := 11) (v := ?_) rfl (by kernel_rfl) (by kernel_rfl) (by kernel_rfl) (fun _ _ _ h => h) (Or.inl ⟨by rfl, ?_⟩) (by assumption) ?_
          rotate_left
          · (intro w hSw; (try dsimp only at hSw); go_simp <;> with_reducible rfl)
          (try simp only [Act.put, List.setIfInBounds_toArray, List.set_cons_zero, List.set_cons_succ])
          refine hand_take (i := 12) (v := ?_) rfl (by kernel_rfl) (by kernel_rfl) (by kernel_rfl) (fun _ _ _ h => h) (Or.inl ⟨by rfl, ?_⟩) (by assumption) ?_
          rotate_left
          · (intro w hSw; (try dsimp only at hSw); go_simp <;> with_reducible rfl)
          (try simp only [Act.put, List.setIfInBounds_toArray, List.set_cons_zero, List.set_cons_succ])
          refine hand_take (i := 13) (v := ?_) rfl (by kernel_rfl) (by kernel_rfl) (by kernel_rfl) (fun _ _ _ h => h) (Or.inl ⟨by rfl, ?_⟩) (by assumption) ?_
          rotate_left
          · (intro w hSw; (try dsimp only at hSw); go_simp <;> with_reducible rfl)
          (try simp only [Act.put, List.setIfInBounds_toArray, List.set_cons_zero, List.set_cons_succ])
          refine hand_take (i := 14) (v := ?_) rfl (by kernel_rfl) (by kernel_rfl) (by kernel_rfl) (fun _ _ _ h => h) (Or.inl ⟨by rfl, ?_⟩) (by assumption) ?_
          rotate_left
          · (intro w hSw; (try dsimp only at hSw); go_simp <;> with_reducible rfl)
          (try simp only [Act.put, List.setIfInBounds_toArray, List.set_cons_zero, List.set_cons_succ])
          refine wpAnyH_done (by kernel_rfl) ?_ _
          go_wp2_with fail
          go_meet
          exact ⟨rfl, M3.out, t0, t1, t2, t3⟩
      · go_simp
        refine hK.out _ _ ?_ (fun hHeld2 => ?_)
        · ((try dsimp only); first | exact ⟨t0, t1, t2, t3⟩ | go_keep)
        clear hK K hHeld
        have hHeld := hHeld2
        clear hHeld2
        (try simp only [Act.put, List.setIfInBounds_toArray, List.set_cons_zero, List.set_cons_succ])
        refine hand_one (i := 2) rfl (by kernel_rfl) (fun K hK => ?_)
        go_simp
        refine hK.out _ _ ?_ (fun hHeld2 => ?_)
        · ((try dsimp only); first | exact ⟨t0, t1, t2, t3⟩ | go_keep)
        clear hK K hHeld
        have hHeld := hHeld2
        clear hHeld2
        (try simp only [Act.put, List.setIfInBounds_toArray, List.set_cons_zero, List.set_cons_succ])
        refine hand_one (i := 4) rfl (by kernel_rfl) (fun K hK => ?_)
        have z0 : w0.cell? _ = _ := t0
        have z1 : w0.cell? _ = _ := t1
        have z2 : w0.cell? _ = _ := t2
        have z3 : w0.cell? _ = _ := t3
        refine step_append_bales (w0 := w0) (by rfl) _ _ 35 rfl _ _ 48 Try.underlying35 rfl rfl rfl rfl rfl (by repeat (first | exact Mod.refl _ _ | exact HG1.out.mod | apply Mod.alloc | apply Mod.drew)) (.slice (some ⟨w0.heap.size + 1, 0, none⟩) 0 0) 0 [] rfl ⟨_, _, _, rfl, Nat.le_refl _⟩ (ownsRow_mod (own_none (w := w0.alloc (.cells #[.int .i64 y.id, .int .i64 y.mat, .int .i64 y.tm, .slice a' y.mix.length c'] 33)) (by simp) (by simp)) (by repeat (first | exact Mod.refl _ _ | exact HG1.out.mod | apply Mod.alloc | apply Mod.drew))) aB n cB vb rfl HMo.out.len (HMo.out.at_ _ (by repeat (first | exact Mod.refl _ _ | exact HG1.out.mod | apply Mod.alloc | apply Mod.drew))) HMo.out.one (by simp only [maxLen]; omega) (by omega) ?_
        intro v1 w1 G1
        have HR : Hid (w1.rowIs w0.heap.size 33 4 (fun i => (#[.int .i64 y.id, .int .i64 y.mat, .int .i64 y.tm, .slice a' y.mix.length c'] : Array Value).getD i undef)) := Lib.hid (((rowIs_new w0 #[.int .i64 y.id, .int .i64 y.mat, .int .i64 y.tm, .slice a' y.mix.length c'] 33).alloc (.cells #[] 33)).of_block (w' := w1) (G1.blk _ (by show _ < ((w0.alloc (.cells #[.int .i64 y.id, .int .i64 y.mat, .int .i64 y.tm, .slice a' y.mix.length c'] 33)).alloc (.cells #[] 33)).heap.size; simp; try omega) (by simp [Value.ownBlock])))
        have HG1 := Lib.hid G1
        replace t0 : w1.cell? ⟨gb, 0, none⟩ = some (.int .i64 y.id) := G1.mod.cell z0 id
        replace t1 : w1.cell? ⟨gb, 1, none⟩ = some (.int .i64 y.mat) := G1.mod.cell z1 id
        replace t2 : w1.cell? ⟨gb, 2, none⟩ = some (.int .i64 y.tm) := G1.mod.cell z2 id
        replace t3 : w1.cell? ⟨gb, 3, none⟩ = some (.slice a' y.mix.length c') := G1.mod.cell z3 id
        clear G1
        clear z0 z1 z2 z3
        refine hK.out _ _ ?_ (fun hHeld2 => ?_)
        · ((try dsimp only); first | exact ⟨t0, t1, t2, t3⟩ | go_keep)
        clear hK K hHeld
        have hHeld := hHeld2
        clear hHeld2
        (try simp only [Act.put, List.setIfInBounds_toArray, List.set_cons_zero, List.set_cons_succ])
        refine hand_one (i := 7) rfl (by kernel_rfl) (fun K hK => ?_)
        have q1 := own_sl HG1.out.own
        refine step_append_bales (w0 := w0) (by rfl) _ _ 35 rfl _ _ 48 Try.underlying35 rfl rfl rfl rfl rfl ?_ v1 (0 + n) ([] ++ vb) rfl q1 ?_ (some ⟨w0.heap.size, 0, none⟩) 1 1 (balV y a' c') rfl rfl ?_ (balV_one y a' c') ?_ ?_ ?_
        clear q1
        · (exact (by repeat (first | exact Mod.refl _ _ | exact HG1.out.mod | apply Mod.alloc | apply Mod.drew)))
        · (exact ownsRow_mod HG1.out.own (by repeat (first | exact Mod.refl _ _ | exact HG1.out.mod | apply Mod.alloc | apply Mod.drew)))
        · (exact fun _ => ⟨_, rfl, row_cells HR.out (by show 4 ≤ 4; omega)⟩)
        · (simp only [maxLen]; omega)
        · (omega)
        intro v2 w2 G2
        obtain ⟨a3, c3, rfl, hbal⟩ := HMo.out.bals _ _ _ _ G2.mod G2.own (by omega) (by simp)
        have HG2 := Lib.hid G2.mod
        have Hf := Lib.hid (few_any (a := a) (aG := aG) (c := c) (cG := cG) (cB := c3) ll lg hbal)
        rw [show (bs ++ [y]).length = n + 1 by rw [List.length_append, Hn.out]; rfl] at Hf
        replace t0 : w2.cell? ⟨gb, 0, none⟩ = some (.int .i64 y.id) := HG2.out.cell HS0.out id
        replace t1 : w2.cell? ⟨gb, 1, none⟩ = some (.int .i64 y.mat) := HG2.out.cell HS1.out id
        replace t2 : w2.cell? ⟨gb, 2, none⟩ = some (.int .i64 y.tm) := HG2.out.cell HS2.out id
        replace t3 : w2.cell? ⟨gb, 3, none⟩ = some (.slice a' y.mix.length c') := HG2.out.cell HS3.out id
        clear hbal G2
        refine hK.out _ _ ?_ (fun hHeld2 => ?_)
        · ((try dsimp only); first | exact ⟨t0, t1, t2, t3⟩ | go_keep)
        clear hK K hHeld
        have hHeld := hHeld2
        clear hHeld2
        (try simp only [Act.put, List.setIfInBounds_toArray, List.set_cons_zero, List.set_cons_succ])
        refine hand_one (i := 8) rfl (by kernel_rfl) (fun K hK => ?_)
        go_simp
        go_at_call 13
        refine Hf.out.mono ?_
        rintro e w3 ⟨r, rfl, hr, m⟩
        obtain rfl : r = true := (hr.2 HF.out)
        have M3 := Lib.hid (HG2.out.trans m)
        replace t0 : w3.cell? ⟨gb, 0, none⟩ = some (.int .i64 y.id) := m.cell t0 id
        replace t1 : w3.cell? ⟨gb, 1, none⟩ = some (.int .i64 y.mat) := m.cell t1 id
        replace t2 : w3.cell? ⟨gb, 2, none⟩ = some (.int .i64 y.tm) := m.cell t2 id
        replace t3 : w3.cell? ⟨gb, 3, none⟩ = some (.slice a' y.mix.length c') := m.cell t3 id
        clear m hr
        try go_wp2_with fail
        refine hK.out _ _ ?_ (fun hHeld2 => ?_)
        · ((try dsimp only); first | exact ⟨t0, t1, t2, t3⟩ | go_keep)
        clear hK K hHeld
        have hHeld := hHeld2
        clear hHeld2
        (try simp only [Act.put, List.setIfInBounds_toArray, List.set_cons_zero, List.set_cons_succ])
        refine hand_take (i := 9) (v := ?_) rfl (by kernel_rfl) (by kernel_rfl) (by kernel_rfl) (fun _ _ _ h => h) (Or.inl ⟨by rfl, ?_⟩) (by assumption) ?_
        rotate_left
        · (intro w hSw; (try dsimp only at hSw); go_simp <;> with_reducible rfl)
        (try simp only [Act.put, List.setIfInBounds_toArray, List.set_cons_zero, List.set_cons_succ])
        refine hand_take (i := 10) (v := ?_) rfl (by kernel_rfl) (by kernel_rfl) (by kernel_rfl) (fun _ _ _ h => h) (Or.inl ⟨by rfl, ?_⟩) (by assumption) ?_
        rotate_left
        · (intro w hSw; (try dsimp only at hSw); go_simp <;> with_reducible rfl)
        (try simp only [Act.put, List.setIfInBounds_toArray, List.set_cons_zero, List.set_cons_succ])
        refine hand_take (i := 11) (v := ?_) rfl (by kernel_rfl) (by kernel_rfl) (by kernel_rfl) (fun _ _ _ h => h) (Or.inl ⟨by rfl, ?_⟩) (by assumption) ?_
        rotate_left
        · (intro w hSw; (try dsimp only at hSw); go_simp <;> with_reducible rfl)
        (try simp only [Act.put, List.setIfInBounds_toArray, List.set_cons_zero, List.set_cons_succ])
        refine hand_take (i := 12) (v := ?_) rfl (by kernel_rfl) (by kernel_rfl) (by kernel_rfl) (fun _ _ _ h => h) (Or.inl ⟨by rfl, ?_⟩) (by assumption) ?_
        rotate_left
        · (intro w hSw; (try dsimp only at hSw); go_simp <;> with_reducible rfl)
        (try simp only [Act.put, List.setIfInBounds_toArray, List.set_cons_zero, List.set_cons_succ])
        refine hand_take (i := 13) (v := ?_) rfl (by kernel_rfl) (by kernel_rfl) (by kernel_rfl) (fun _ _ _ h => h) (Or.inl ⟨by rfl, ?_⟩) (by assumption) ?_
        rotate_left
        · (intro w hSw; (try dsimp only at hSw); go_simp <;> with_reducible rfl)
        (try simp only [Act.put, List.setIfInBounds_toArray, List.set_cons_zero, List.set_cons_succ])
        refine hand_take (i := 14) (v := ?_) rfl (by kernel_rfl) (by kernel_rfl) (by kernel_rfl) (fun _ _ _ h => h) (Or.inl ⟨by rfl, ?_⟩) (by assumption) ?_
        rotate_left
        · (intro w hSw; (try dsimp only at hSw); go_simp <;> with_reducible rfl)
        (try simp only [Act.put, List.setIfInBounds_toArray, List.set_cons_zero, List.set_cons_succ])
        refine wpAnyH_done (by kernel_rfl) ?_ _
        go_wp2_with fail
        go_meet
        exact ⟨rfl, M3.out, t0, t1, t2, t3⟩
  case rest =>
    obtain ⟨rfl, m1, u0, u1, u2, u3⟩ := hcut
    have N1 := Lib.hid m1
    clear m1 t0 t1 t2 t3 HS0 HS1 HS2 HS3
    by_cases h23 : 23 < (n : Int)
    · have hd : decide (23 < (n : Int)) = true := decide_eq_true h23
      go_wp2_with (go_at_call 10; refine (awakeK_any _).mono ?_; rintro e w4 ⟨rfl, m⟩)
      have M4 := Lib.hid ((M0.out.trans N1.out).trans m)
      clear m
      go_wp2_with fail
      go_ret
      exact ⟨rfl, M4.out⟩
    · have hd : decide (23 < (n : Int)) = false := decide_eq_false h23
      have HA := assign_any (c := c) (cG := cG) (cB := cB) (HL.out.frame N1.out) Hc.out (HG.out.frame N1.out) (HB.out.frame N1.out) (by rw [Hn.out]; omega)
      rw [Hn.out] at HA
      have Has := Lib.hid HA
      have HE2 : Hid (errA g l bs = errA g l (bs ++ [y])) := Lib.hid (err_more (by rw [Hn.out]; omega))
      have HLM : Hid (∀ cols t cols' t', errA g l bs = 0 → AsgIs g l bs cols t → AsgIs g l (bs ++ [y]) cols' t' → t' ≤ t ∧ 0 ≤ t') := Lib.hid fun cols t cols' t' he h h' => less_more (by rw [Hn.out]; omega) he h h'
      clear HA
      go_upto_region 4 with (go_at_call 16; refine Has.out.mono ?_; rintro e w4 ⟨aC, cC, cols, t, rfl, m, _, hasg⟩)
      have N4 := Lib.hid (N1.out.trans m)
      have HA0 := Lib.hid hasg
      have t0 : w4.cell? ⟨gb, 0, none⟩ = some (.int .i64 y.id) := m.cell u0 id
      have t1 : w4.cell? ⟨gb, 1, none⟩ = some (.int .i64 y.mat) := m.cell u1 id
      have t2 : w4.cell? ⟨gb, 2, none⟩ = some (.int .i64 y.tm) := m.cell u2 id
      have t3 : w4.cell? ⟨gb, 3, none⟩ = some (.slice a' y.mix.length c') := m.cell u3 id
      clear m hasg u0 u1 u2 u3 Has HMo
      clear vb
      have HL4 := Lib.hid (HL.out.frame N4.out)
      have HG4 := Lib.hid (HG.out.frame N4.out)
      obtain ⟨vb, hmore⟩ := more_of (c' := c') (HB.out.frame N4.out) (HM.out.frame N4.out) (by rw [Hn.out]; simp only [maxLen]; omega)
      rw [Hn.out] at hmore
      have HMo4 := Lib.hid hmore
      have HS0 := Lib.hid t0
      have HS1 := Lib.hid t1
      have HS2 := Lib.hid t2
      have HS3 := Lib.hid t3
      clear hmore HL HG HB HM
      obtain ⟨e1, he1⟩ : ∃ e1, errA g l bs = e1 := ⟨_, rfl⟩
      have HE1 := Lib.hid he1
      rw [he1] at HE2 ⊢
      clear he1
      go_cut [12, 13, 14] (fun s12 s13 s14 wx => ∃ (v12 : Value) (cols' : List Int) (t' : Int), s12 = v12 ∧ s13 = .int .i64 t' ∧ s14 = .int .i64 e1 ∧ AsgIs g l (bs ++ [y]) cols' t' ∧ Mod NoBlock w4 wx)
      case first =>
        refine wp_region_held_drew (S := (fun w' => w'.cell? ⟨gb, 0, none⟩ = some (.int .i64 y.id) ∧ w'.cell? ⟨gb, 1, none⟩ = some (.int .i64 y.mat) ∧ w'.cell? ⟨gb, 2, none⟩ = some (.int .i64 y.tm) ∧ w'.cell? ⟨gb, 3, none⟩ = some (.slice a' y.mix.length c'))) (by kernel_rfl) ⟨t0, t1, t2, t3⟩ (fun hHeld => ?_)
        refine hand_take (i := 0) (v := ?_) rfl (by kernel_rfl) (by kernel_rfl) (by kernel_rfl) (fun _ _ _ h => h) (Or.inl ⟨by rfl, ?_⟩) (by assumption) ?_
        rotate_left
        · (intro w hSw; (try dsimp only at hSw); go_simp <;> with_reducible rfl)
        (try simp only [Act.put, List.setIfInBounds_toArray, List.set_cons_zero, List.set_cons_succ])
        refine hand_take (i := 1) (v := ?_) rfl (by kernel_rfl) (by kernel_rfl) (by kernel_rfl) (fun _ _ _ h => h) (Or.inl ⟨by rfl, ?_⟩) (by assumption) ?_
        rotate_left
        · (intro w hSw; (try dsimp only at hSw); go_simp <;> with_reducible rfl)
        (try simp only [Act.put, List.setIfInBounds_toArray, List.set_cons_zero, List.set_cons_succ])
        refine hand_take (i := 3) (v := ?_) rfl (by kernel_rfl) (by kernel_rfl) (by kernel_rfl) (fun _ _ _ h => h) (Or.inl ⟨by rfl, ?_⟩) (by assumption) ?_
        rotate_left
        · (intro w hSw; (try dsimp only at hSw); go_simp <;> with_reducible rfl)
        (try simp only [Act.put, List.setIfInBounds_toArray, List.set_cons_zero, List.set_cons_succ])
        refine hand_take (i := 5) (v := ?_) rfl (by kernel_rfl) (by kernel_rfl) (by kernel_rfl) (fun _ _ _ h => h) (Or.inl ⟨by rfl, ?_⟩) (by assumption) ?_
        rotate_left
        · (intro w hSw; (try dsimp only at hSw); go_simp <;> with_reducible rfl)
        (try simp only [Act.put, List.setIfInBounds_toArray, List.set_cons_zero, List.set_cons_succ])
        refine hand_two (i := 2) (j := 6) rfl rfl (by kernel_rfl) (fun K hK => ?_) (fun K hK => ?_)
        · go_simp
          refine hK.out _ _ ?_ (fun hHeld2 => ?_)
          · ((try dsimp only); first | exact ⟨t0, t1, t2, t3⟩ | go_keep)
          clear hK K hHeld
          have hHeld := hHeld2
          clear hHeld2
          (try simp only [Act.put, List.setIfInBounds_toArray, List.set_cons_zero, List.set_cons_succ])
          refine hand_two (i := 4) (j := 6) rfl rfl (by kernel_rfl) (fun K hK => ?_) (fun K hK => ?_)
          · have z0 : w4.cell? _ = _ := t0
            have z1 : w4.cell? _ = _ := t1
            have z2 : w4.cell? _ = _ := t2
            have z3 : w4.cell? _ = _ := t3
            refine step_append_bales (w0 := w4) (by rfl) _ _ 35 rfl _ _ 48 Try.underlying35 rfl rfl rfl rfl rfl (by repeat (first | exact Mod.refl _ _ | exact HG1.out.mod | apply Mod.alloc | apply Mod.drew)) (.slice (some ⟨w4.heap.size, 0, none⟩) 0 0) 0 [] rfl ⟨_, _, _, rfl, Nat.le_refl _⟩ (ownsRow_mod (own_none (w := w4) (Nat.le_refl _) rfl) (by repeat (first | exact Mod.refl _ _ | exact HG1.out.mod | apply Mod.alloc | apply Mod.drew))) aB n cB vb rfl HMo4.out.len (HMo4.out.at_ _ (by repeat (first | exact Mod.refl _ _ | exact HG1.out.mod | apply Mod.alloc | apply Mod.drew))) HMo4.out.one (by simp only [maxLen]; omega) (by omega) ?_
            intro v1 w1 G1
            have HG1 := Lib.hid G1
            replace t0 : w1.cell? ⟨gb, 0, none⟩ = some (.int .i64 y.id) := G1.mod.cell z0 id
            replace t1 : w1.cell? ⟨gb, 1, none⟩ = some (.int .i64 y.mat) := G1.mod.cell z1 id
            replace t2 : w1.cell? ⟨gb, 2, none⟩ = some (.int .i64 y.tm) := G1.mod.cell z2 id
            replace t3 : w1.cell? ⟨gb, 3, none⟩ = some (.slice a' y.mix.length c') := G1.mod.cell z3 id
            clear G1
            clear z0 z1 z2 z3
            refine hK.out _ _ ?_ (fun hHeld2 => ?_)
            · ((try dsimp only); first | exact ⟨t0, t1, t2, t3⟩ | go_keep)
            clear hK K hHeld
            have hHeld := hHeld2
            clear hHeld2
            (try simp only [Act.put, List.setIfInBounds_toArray, List.set_cons_zero, List.set_cons_succ])
            refine hand_one (i := 6) rfl (by kernel_rfl) (fun K hK => ?_)
            go_simp
            refine hK.out _ _ ?_ (fun hHeld2 => ?_)
            · ((try dsimp only); first | exact ⟨t0, t1, t2, t3⟩ | go_keep)
            clear hK K hHeld
            have hHeld := hHeld2
            clear hHeld2
            (try simp only [Act.put, List.setIfInBounds_toArray, List.set_cons_zero, List.set_cons_succ])
            refine hand_one (i := 7) rfl (by kernel_rfl) (fun K hK => ?_)
            have q1 := own_sl HG1.out.own
            refine step_append_bales (w0 := w4) (by rfl) _ _ 35 rfl _ _ 48 Try.underlying35 rfl rfl rfl rfl rfl ?_ v1 (0 + n) ([] ++ vb) rfl q1 ?_ (some ⟨w1.heap.size, 0, none⟩) 1 1 (balV y a' c') rfl rfl ?_ (balV_one y a' c') ?_ ?_ ?_
            clear q1
            · (exact (by repeat (first | exact Mod.refl _ _ | exact HG1.out.mod | apply Mod.alloc | apply Mod.drew)))
            · (exact ownsRow_mod HG1.out.own (by repeat (first | exact Mod.refl _ _ | exact HG1.out.mod | apply Mod.alloc | apply Mod.drew)))
            · (exact fun _ => ⟨_, rfl, row_cells (rowIs_new w1 #[.int .i64 y.id, .int .i64 y.mat, .int .i64 y.tm, .slice a' y.mix.length c'] 33) (by show 4 ≤ 4; omega)⟩)
            · (simp only [maxLen]; omega)
            · (omega)
            intro v2 w2 G2
            obtain ⟨a3, c3, rfl, hbal⟩ := HMo4.out.bals _ _ _ _ G2.mod G2.own (by omega) (by simp)
            have HG2 := Lib.hid G2.mod
            have Ha := Lib.hid (assign_any (c := c) (cG := cG) (cB := c3) (HL4.out.frame HG2.out) Hc.out (HG4.out.frame HG2.out) hbal (by rw [List.length_append, Hn.out]; show n + 1 ≤ 60; omega))
            rw [show (bs ++ [y]).length = n + 1 by rw [List.length_append, Hn.out]; rfl] at Ha
            replace t0 : w2.cell? ⟨gb, 0, none⟩ = some (.int .i64 y.id) := HG2.out.cell HS0.out id
            replace t1 : w2.cell? ⟨gb, 1, none⟩ = some (.int .i64 y.mat) := HG2.out.cell HS1.out id
            replace t2 : w2.cell? ⟨gb, 2, none⟩ = some (.int .i64 y.tm) := HG2.out.cell HS2.out id
            replace t3 : w2.cell? ⟨gb, 3, none⟩ = some (.slice a' y.mix.length c') := HG2.out.cell HS3.out id
            clear hbal G2
            refine hK.out _ _ ?_ (fun hHeld2 => ?_)
            · ((try dsimp only); first | exact ⟨t0, t1, t2, t3⟩ | go_keep)
            clear hK K hHeld
            have hHeld := hHeld2
            clear hHeld2
            (try simp only [Act.put, List.setIfInBounds_toArray, List.set_cons_zero, List.set_cons_succ])
            refine hand_one (i := 8) rfl (by kernel_rfl) (fun K hK => ?_)
            go_simp
            go_at_call 16
            refine Ha.out.mono ?_
            rintro e w3 ⟨aC, cC, cols', t', rfl, m, _, hasg⟩
            have HA4 := Lib.hid hasg
            have M3 := Lib.hid (HG2.out.trans m)
            replace t0 : w3.cell? ⟨gb, 0, none⟩ = some (.int .i64 y.id) := m.cell t0 id
            replace t1 : w3.cell? ⟨gb, 1, none⟩ = some (.int .i64 y.mat) := m.cell t1 id
            replace t2 : w3.cell? ⟨gb, 2, none⟩ = some (.int .i64 y.tm) := m.cell t2 id
            replace t3 : w3.cell? ⟨gb, 3, none⟩ = some (.slice a' y.mix.length c') := m.cell t3 id
            clear m hasg
            try go_wp2_with fail
            refine hK.out _ _ ?_ (fun hHeld2 => ?_)
            · ((try dsimp only); first | exact ⟨t0, t1, t2, t3⟩ | go_keep)
            clear hK K hHeld
            have hHeld := hHeld2
            clear hHeld2
            (try simp only [Act.put, List.setIfInBounds_toArray, List.set_cons_zero, List.set_cons_succ])
            refine hand_take (i := 9) (v := ?_) rfl (by kernel_rfl) (by kernel_rfl) (by kernel_rfl) (fun _ _ _ h => h) (Or.inl ⟨by rfl, ?_⟩) (by assumption) ?_
            rotate_left
            · (intro w hSw; (try dsimp only at hSw); go_simp <;> with_reducible rfl)
            (try simp only [Act.put, List.setIfInBounds_toArray, List.set_cons_zero, List.set_cons_succ])
            refine hand_take (i := 10) (v := ?_) rfl (by kernel_rfl) (by kernel_rfl) (by kernel_rfl) (fun _ _ _ h => h) (Or.inl ⟨by rfl, ?_⟩) (by assumption) ?_
            rotate_left
            · (intro w hSw; (try dsimp only at hSw); go_simp <;> with_reducible rfl)
            (try simp only [Act.put, List.setIfInBounds_toArray, List.set_cons_zero, List.set_cons_succ])
            refine hand_take (i := 11) (v := ?_) rfl (by kernel_rfl) (by kernel_rfl) (by kernel_rfl) (fun _ _ _ h => h) (Or.inl ⟨by rfl, ?_⟩) (by assumption) ?_
            rotate_left
            · (intro w hSw; (try dsimp only at hSw); go_simp <;> with_reducible rfl)
            (try simp only [Act.put, List.setIfInBounds_toArray, List.set_cons_zero, List.set_cons_succ])
            refine hand_take (i := 12) (v := ?_) rfl (by kernel_rfl) (by kernel_rfl) (by kernel_rfl) (fun _ _ _ h => h) (Or.inl ⟨by rfl, ?_⟩) (by assumption) ?_
            rotate_left
            · (intro w hSw; (try dsimp only at hSw); go_simp <;> with_reducible rfl)
            (try simp only [Act.put, List.setIfInBounds_toArray, List.set_cons_zero, List.set_cons_succ])
            refine hand_take (i := 13) (v := ?_) rfl (by kernel_rfl) (by kernel_rfl) (by kernel_rfl) (fun _ _ _ h => h) (Or.inl ⟨by rfl, ?_⟩) (by assumption) ?_
            rotate_left
            · (intro w hSw; (try dsimp only at hSw); go_simp <;> with_reducible rfl)
            (try simp only [Act.put, List.setIfInBounds_toArray, List.set_cons_zero, List.set_cons_succ])
            refine hand_take (i := 14) (v := ?_) rfl (by kernel_rfl) (by kernel_rfl) (by kernel_rfl) (fun _ _ _ h => h) (Or.inl ⟨by rfl, ?_⟩) (by assumption) ?_
            rotate_left
            · (intro w hSw; (try dsimp only at hSw); go_simp <;> with_reducible rfl)
            (try simp only [Act.put, List.setIfInBounds_toArray, List.set_cons_zero, List.set_cons_succ])
            refine hand_take (i := 15) (v := ?_) rfl (by kernel_rfl) (by kernel_rfl) (by kernel_rfl) (fun _ _ _ h => h) (Or.inl ⟨by rfl, ?_⟩) (by assumption) ?_
            rotate_left
            · (intro w hSw; (try dsimp only at hSw); go_simp <;> with_reducible rfl)
            (try simp only [Act.put, List.setIfInBounds_toArray, List.set_cons_zero, List.set_cons_succ])
            refine wpAnyH_done (by kernel_rfl) ?_ _
            go_wp2_with fail
            go_meet
            exact ⟨_, _, _, rfl, rfl, by rw [HE2.out], HA4.out, M3.out⟩
          · go_simp
            refine hK.out _ _ ?_ (fun hHeld2 => ?_)
            · ((try dsimp only); first | exact ⟨t0, t1, t2, t3⟩ | go_keep)
            clear hK K hHeld
            have hHeld := hHeld2
            clear hHeld2
            (try simp only [Act.put, List.setIfInBounds_toArray, List.set_cons_zero, List.set_cons_succ])
            refine hand_one (i := 4) rfl (by kernel_rfl) (fun K hK => ?_)
            have z0 : w4.cell? _ = _ := t0
            have z1 : w4.cell? _ = _ := t1
            have z2 : w4.cell? _ = _ := t2
            have z3 : w4.cell? _ = _ := t3
            refine step_append_bales (w0 := w4) (by rfl) _ _ 35 rfl _ _ 48 Try.underlying35 rfl rfl rfl rfl rfl (by repeat (first | exact Mod.refl _ _ | exact HG1.out.mod | apply Mod.alloc | apply Mod.drew)) (.slice (some ⟨w4.heap.size, 0, none⟩) 0 0) 0 [] rfl ⟨_, _, _, rfl, Nat.le_refl _⟩ (ownsRow_mod (own_none (w := w4) (Nat.le_refl _) rfl) (by repeat (first | exact Mod.refl _ _ | exact HG1.out.mod | apply Mod.alloc | apply Mod.drew))) aB n cB vb rfl HMo4.out.len (HMo4.out.at_ _ (by repeat (first | exact Mod.refl _ _ | exact HG1.out.mod | apply Mod.alloc | apply Mod.drew))) HMo4.out.one (by simp only [maxLen]; omega) (by omega) ?_
            intro v1 w1 G1
            have HR : Hid (w1.rowIs (w4.heap.size + 1) 33 4 (fun i => (#[.int .i64 y.id, .int .i64 y.mat, .int .i64 y.tm, .slice a' y.mix.length c'] : Array Value).getD i undef)) := Lib.hid (by
              have h := (rowIs_new (w4.alloc (.cells #[] 33)) #[.int .i64 y.id, .int .i64 y.mat, .int .i64 y.tm, .slice a' y.mix.length c'] 33).of_block (w' := w1) (G1.blk _ (by show _ < ((w4.alloc (.cells #[] 33)).alloc (.cells #[.int .i64 y.id, .int .i64 y.mat, .int .i64 y.tm, .slice a' y.mix.length c'] 33)).heap.size; simp) (by simp [Value.ownBlock]))
              rw [show (w4.alloc (.cells #[] 33)).heap.size = w4.heap.size + 1 by simp] at h
              exact h)
            have HG1 := Lib.hid G1
            replace t0 : w1.cell? ⟨gb, 0, none⟩ = some (.int .i64 y.id) := G1.mod.cell z0 id
            replace t1 : w1.cell? ⟨gb, 1, none⟩ = some (.int .i64 y.mat) := G1.mod.cell z1 id
            replace t2 : w1.cell? ⟨gb, 2, none⟩ = some (.int .i64 y.tm) := G1.mod.cell z2 id
            replace t3 : w1.cell? ⟨gb, 3, none⟩ = some (.slice a' y.mix.length c') := G1.mod.cell z3 id
            clear G1
            clear z0 z1 z2 z3
            refine hK.out _ _ ?_ (fun hHeld2 => ?_)
            · ((try dsimp only); first | exact ⟨t0, t1, t2, t3⟩ | go_keep)
            clear hK K hHeld
            have hHeld := hHeld2
            clear hHeld2
            (try simp only [Act.put, List.setIfInBounds_toArray, List.set_cons_zero, List.set_cons_succ])
            refine hand_one (i := 7) rfl (by kernel_rfl) (fun K hK => ?_)
            have q1 := own_sl HG1.out.own
            refine step_append_bales (w0 := w4) (by rfl) _ _ 35 rfl _ _ 48 Try.underlying35 rfl rfl rfl rfl rfl ?_ v1 (0 + n) ([] ++ vb) rfl q1 ?_ (some ⟨w4.heap.size + 1, 0, none⟩) 1 1 (balV y a' c') rfl rfl ?_ (balV_one y a' c') ?_ ?_ ?_
            clear q1
            · (exact (by repeat (first | exact Mod.refl _ _ | exact HG1.out.mod | apply Mod.alloc | apply Mod.drew)))
            · (exact ownsRow_mod HG1.out.own (by repeat (first | exact Mod.refl _ _ | exact HG1.out.mod | apply Mod.alloc | apply Mod.drew)))
            · (exact fun _ => ⟨_, rfl, row_cells HR.out (by show 4 ≤ 4; omega)⟩)
            · (simp only [maxLen]; omega)
            · (omega)
            intro v2 w2 G2
            obtain ⟨a3, c3, rfl, hbal⟩ := HMo4.out.bals _ _ _ _ G2.mod G2.own (by omega) (by simp)
            have HG2 := Lib.hid G2.mod
            have Ha := Lib.hid (assign_any (c := c) (cG := cG) (cB := c3) (HL4.out.frame HG2.out) Hc.out (HG4.out.frame HG2.out) hbal (by rw [List.length_append, Hn.out]; show n + 1 ≤ 60; omega))
            rw [show (bs ++ [y]).length = n + 1 by rw [List.length_append, Hn.out]; rfl] at Ha
            replace t0 : w2.cell? ⟨gb, 0, none⟩ = some (.int .i64 y.id) := HG2.out.cell HS0.out id
            replace t1 : w2.cell? ⟨gb, 1, none⟩ = some (.int .i64 y.mat) := HG2.out.cell HS1.out id
            replace t2 : w2.cell? ⟨gb, 2, none⟩ = some (.int .i64 y.tm) := HG2.out.cell HS2.out id
            replace t3 : w2.cell? ⟨gb, 3, none⟩ = some (.slice a' y.mix.length c') := HG2.out.cell HS3.out id
            clear hbal G2
            refine hK.out _ _ ?_ (fun hHeld2 => ?_)
            · ((try dsimp only); first | exact ⟨t0, t1, t2, t3⟩ | go_keep)
            clear hK K hHeld
            have hHeld := hHeld2
            clear hHeld2
            (try simp only [Act.put, List.setIfInBounds_toArray, List.set_cons_zero, List.set_cons_succ])
            refine hand_one (i := 8) rfl (by kernel_rfl) (fun K hK => ?_)
            go_simp
            go_at_call 16
            refine Ha.out.mono ?_
            rintro e w3 ⟨aC, cC, cols', t', rfl, m, _, hasg⟩
            have HA4 := Lib.hid hasg
            have M3 := Lib.hid (HG2.out.trans m)
            replace t0 : w3.cell? ⟨gb, 0, none⟩ = some (.int .i64 y.id) := m.cell t0 id
            replace t1 : w3.cell? ⟨gb, 1, none⟩ = some (.int .i64 y.mat) := m.cell t1 id
            replace t2 : w3.cell? ⟨gb, 2, none⟩ = some (.int .i64 y.tm) := m.cell t2 id
            replace t3 : w3.cell? ⟨gb, 3, none⟩ = some (.slice a' y.mix.length c') := m.cell t3 id
            clear m hasg
            try go_wp2_with fail
            refine hK.out _ _ ?_ (fun hHeld2 => ?_)
            · ((try dsimp only); first | exact ⟨t0, t1, t2, t3⟩ | go_keep)
            clear hK K hHeld
            have hHeld := hHeld2
            clear hHeld2
            (try simp only [Act.put, List.setIfInBounds_toArray, List.set_cons_zero, List.set_cons_succ])
            refine hand_take (i := 9) (v := ?_) rfl (by kernel_rfl) (by kernel_rfl) (by kernel_rfl) (fun _ _ _ h => h) (Or.inl ⟨by rfl, ?_⟩) (by assumption) ?_
            rotate_left
            · (intro w hSw; (try dsimp only at hSw); go_simp <;> with_reducible rfl)
            (try simp only [Act.put, List.setIfInBounds_toArray, List.set_cons_zero, List.set_cons_succ])
            refine hand_take (i := 10) (v := ?_) rfl (by kernel_rfl) (by kernel_rfl) (by kernel_rfl) (fun _ _ _ h => h) (Or.inl ⟨by rfl, ?_⟩) (by assumption) ?_
            rotate_left
            · (intro w hSw; (try dsimp only at hSw); go_simp <;> with_reducible rfl)
            (try simp only [Act.put, List.setIfInBounds_toArray, List.set_cons_zero, List.set_cons_succ])
            refine hand_take (i := 11) (v := ?_) rfl (by kernel_rfl) (by kernel_rfl) (by kernel_rfl) (fun _ _ _ h => h) (Or.inl ⟨by rfl, ?_⟩) (by assumption) ?_
            rotate_left
            · (intro w hSw; (try dsimp only at hSw); go_simp <;> with_reducible rfl)
            (try simp only [Act.put, List.setIfInBounds_toArray, List.set_cons_zero, List.set_cons_succ])
            refine hand_take (i := 12) (v := ?_) rfl (by kernel_rfl) (by kernel_rfl) (by kernel_rfl) (fun _ _ _ h => h) (Or.inl ⟨by rfl, ?_⟩) (by assumption) ?_
            rotate_left
            · (intro w hSw; (try dsimp only at hSw); go_simp <;> with_reducible rfl)
            (try simp only [Act.put, List.setIfInBounds_toArray, List.set_cons_zero, List.set_cons_succ])
            refine hand_take (i := 13) (v := ?_) rfl (by kernel_rfl) (by kernel_rfl) (by kernel_rfl) (fun _ _ _ h => h) (Or.inl ⟨by rfl, ?_⟩) (by assumption) ?_
            rotate_left
            · (intro w hSw; (try dsimp only at hSw); go_simp <;> with_reducible rfl)
            (try simp only [Act.put, List.setIfInBounds_toArray, List.set_cons_zero, List.set_cons_succ])
            refine hand_take (i := 14) (v := ?_) rfl (by kernel_rfl) (by kernel_rfl) (by kernel_rfl) (fun _ _ _ h => h) (Or.inl ⟨by rfl, ?_⟩) (by assumption) ?_
            rotate_left
            · (intro w hSw; (try dsimp only at hSw); go_simp <;> with_reducible rfl)
            (try simp only [Act.put, List.setIfInBounds_toArray, List.set_cons_zero, List.set_cons_succ])
            refine hand_take (i := 15) (v := ?_) rfl (by kernel_rfl) (by kernel_rfl) (by kernel_rfl) (fun _ _ _ h => h) (Or.inl ⟨by rfl, ?_⟩) (by assumption) ?_
            rotate_left
            · (intro w hSw; (try dsimp only at hSw); go_simp <;> with_reducible rfl)
            (try simp only [Act.put, List.setIfInBounds_toArray, List.set_cons_zero, List.set_cons_succ])
            refine wpAnyH_done (by kernel_rfl) ?_ _
            go_wp2_with fail
            go_meet
            exact ⟨_, _, _, rfl, rfl, by rw [HE2.out], HA4.out, M3.out⟩
        · go_simp
          refine hK.out _ _ ?_ (fun hHeld2 => ?_)
          · ((try dsimp only); first | exact ⟨t0, t1, t2, t3⟩ | go_keep)
          clear hK K hHeld
          have hHeld := hHeld2
          clear hHeld2
          (try simp only [Act.put, List.setIfInBounds_toArray, List.set_cons_zero, List.set_cons_succ])
          refine hand_one (i := 2) rfl (by kernel_rfl) (fun K hK => ?_)
          go_simp
          refine hK.out _ _ ?_ (fun hHeld2 => ?_)
          · ((try dsimp only); first | exact ⟨t0, t1, t2, t3⟩ | go_keep)
          clear hK K hHeld
          have hHeld := hHeld2
          clear hHeld2
          (try simp only [Act.put, List.setIfInBounds_toArray, List.set_cons_zero, List.set_cons_succ])
          refine hand_one (i := 4) rfl (by kernel_rfl) (fun K hK => ?_)
          have z0 : w4.cell? _ = _ := t0
          have z1 : w4.cell? _ = _ := t1
          have z2 : w4.cell? _ = _ := t2
          have z3 : w4.cell? _ = _ := t3
          refine step_append_bales (w0 := w4) (by rfl) _ _ 35 rfl _ _ 48 Try.underlying35 rfl rfl rfl rfl rfl (by repeat (first | exact Mod.refl _ _ | exact HG1.out.mod | apply Mod.alloc | apply Mod.drew)) (.slice (some ⟨w4.heap.size + 1, 0, none⟩) 0 0) 0 [] rfl ⟨_, _, _, rfl, Nat.le_refl _⟩ (ownsRow_mod (own_none (w := w4.alloc (.cells #[.int .i64 y.id, .int .i64 y.mat, .int .i64 y.tm, .slice a' y.mix.length c'] 33)) (by simp) (by simp)) (by repeat (first | exact Mod.refl _ _ | exact HG1.out.mod | apply Mod.alloc | apply Mod.drew))) aB n cB vb rfl HMo4.out.len (HMo4.out.at_ _ (by repeat (first | exact Mod.refl _ _ | exact HG1.out.mod | apply Mod.alloc | apply Mod.drew))) HMo4.out.one (by simp only [maxLen]; omega) (by omega) ?_
          intro v1 w1 G1
          have HR : Hid (w1.rowIs w4.heap.size 33 4 (fun i => (#[.int .i64 y.id, .int .i64 y.mat, .int .i64 y.tm, .slice a' y.mix.length c'] : Array Value).getD i undef)) := Lib.hid (((rowIs_new w4 #[.int .i64 y.id, .int .i64 y.mat, .int .i64 y.tm, .slice a' y.mix.length c'] 33).alloc (.cells #[] 33)).of_block (w' := w1) (G1.blk _ (by show _ < ((w4.alloc (.cells #[.int .i64 y.id, .int .i64 y.mat, .int .i64 y.tm, .slice a' y.mix.length c'] 33)).alloc (.cells #[] 33)).heap.size; simp; try omega) (by simp [Value.ownBlock])))
          have HG1 := Lib.hid G1
          replace t0 : w1.cell? ⟨gb, 0, none⟩ = some (.int .i64 y.id) := G1.mod.cell z0 id
          replace t1 : w1.cell? ⟨gb, 1, none⟩ = some (.int .i64 y.mat) := G1.mod.cell z1 id
          replace t2 : w1.cell? ⟨gb, 2, none⟩ = some (.int .i64 y.tm) := G1.mod.cell z2 id
          replace t3 : w1.cell? ⟨gb, 3, none⟩ = some (.slice a' y.mix.length c') := G1.mod.cell z3 id
          clear G1
          clear z0 z1 z2 z3
          refine hK.out _ _ ?_ (fun hHeld2 => ?_)
          · ((try dsimp only); first | exact ⟨t0, t1, t2, t3⟩ | go_keep)
          clear hK K hHeld
          have hHeld := hHeld2
          clear hHeld2
          (try simp only [Act.put, List.setIfInBounds_toArray, List.set_cons_zero, List.set_cons_succ])
          refine hand_one (i := 7) rfl (by kernel_rfl) (fun K hK => ?_)
          have q1 := own_sl HG1.out.own
          refine step_append_bales (w0 := w4) (by rfl) _ _ 35 rfl _ _ 48 Try.underlying35 rfl rfl rfl rfl rfl ?_ v1 (0 + n) ([] ++ vb) rfl q1 ?_ (some ⟨w4.heap.size, 0, none⟩) 1 1 (balV y a' c') rfl rfl ?_ (balV_one y a' c') ?_ ?_ ?_
          clear q1
          · (exact (by repeat (first | exact Mod.refl _ _ | exact HG1.out.mod | apply Mod.alloc | apply Mod.drew)))
          · (exact ownsRow_mod HG1.out.own (by repeat (first | exact Mod.refl _ _ | exact HG1.out.mod | apply Mod.alloc | apply Mod.drew)))
          · (exact fun _ => ⟨_, rfl, row_cells HR.out (by show 4 ≤ 4; omega)⟩)
          · (simp only [maxLen]; omega)
          · (omega)
          intro v2 w2 G2
          obtain ⟨a3, c3, rfl, hbal⟩ := HMo4.out.bals _ _ _ _ G2.mod G2.own (by omega) (by simp)
          have HG2 := Lib.hid G2.mod
          have Ha := Lib.hid (assign_any (c := c) (cG := cG) (cB := c3) (HL4.out.frame HG2.out) Hc.out (HG4.out.frame HG2.out) hbal (by rw [List.length_append, Hn.out]; show n + 1 ≤ 60; omega))
          rw [show (bs ++ [y]).length = n + 1 by rw [List.length_append, Hn.out]; rfl] at Ha
          replace t0 : w2.cell? ⟨gb, 0, none⟩ = some (.int .i64 y.id) := HG2.out.cell HS0.out id
          replace t1 : w2.cell? ⟨gb, 1, none⟩ = some (.int .i64 y.mat) := HG2.out.cell HS1.out id
          replace t2 : w2.cell? ⟨gb, 2, none⟩ = some (.int .i64 y.tm) := HG2.out.cell HS2.out id
          replace t3 : w2.cell? ⟨gb, 3, none⟩ = some (.slice a' y.mix.length c') := HG2.out.cell HS3.out id
          clear hbal G2
          refine hK.out _ _ ?_ (fun hHeld2 => ?_)
          · ((try dsimp only); first | exact ⟨t0, t1, t2, t3⟩ | go_keep)
          clear hK K hHeld
          have hHeld := hHeld2
          clear hHeld2
          (try simp only [Act.put, List.setIfInBounds_toArray, List.set_cons_zero, List.set_cons_succ])
          refine hand_one (i := 8) rfl (by kernel_rfl) (fun K hK => ?_)
          go_simp
          go_at_call 16
          refine Ha.out.mono ?_
          rintro e w3 ⟨aC, cC, cols', t', rfl, m, _, hasg⟩
          have HA4 := Lib.hid hasg
          have M3 := Lib.hid (HG2.out.trans m)
          replace t0 : w3.cell? ⟨gb, 0, none⟩ = some (.int .i64 y.id) := m.cell t0 id
          replace t1 : w3.cell? ⟨gb, 1, none⟩ = some (.int .i64 y.mat) := m.cell t1 id
          replace t2 : w3.cell? ⟨gb, 2, none⟩ = some (.int .i64 y.tm) := m.cell t2 id
          replace t3 : w3.cell? ⟨gb, 3, none⟩ = some (.slice a' y.mix.length c') := m.cell t3 id
          clear m hasg
          try go_wp2_with fail
          refine hK.out _ _ ?_ (fun hHeld2 => ?_)
          · ((try dsimp only); first | exact ⟨t0, t1, t2, t3⟩ | go_keep)
          clear hK K hHeld
          have hHeld := hHeld2
          clear hHeld2
          (try simp only [Act.put, List.setIfInBounds_toArray, List.set_cons_zero, List.set_cons_succ])
          refine hand_take (i := 9) (v := ?_) rfl (by kernel_rfl) (by kernel_rfl) (by kernel_rfl) (fun _ _ _ h => h) (Or.inl ⟨by rfl, ?_⟩) (by assumption) ?_
          rotate_left
          · (intro w hSw; (try dsimp only at hSw); go_simp <;> with_reducible rfl)
          (try simp only [Act.put, List.setIfInBounds_toArray, List.set_cons_zero, List.set_cons_succ])
          refine hand_take (i := 10) (v := ?_) rfl (by kernel_rfl) (by kernel_rfl) (by kernel_rfl) (fun _ _ _ h => h) (Or.inl ⟨by rfl, ?_⟩) (by assumption) ?_
          rotate_left
          · (intro w hSw; (try dsimp only at hSw); go_simp <;> with_reducible rfl)
          (try simp only [Act.put, List.setIfInBounds_toArray, List.set_cons_zero, List.set_cons_succ])
          refine hand_take (i := 11) (v := ?_) rfl (by kernel_rfl) (by kernel_rfl) (by kernel_rfl) (fun _ _ _ h => h) (Or.inl ⟨by rfl, ?_⟩) (by assumption) ?_
          rotate_left
          · (intro w hSw; (try dsimp only at hSw); go_simp <;> with_reducible rfl)
          (try simp only [Act.put, List.setIfInBounds_toArray, List.set_cons_zero, List.set_cons_succ])
          refine hand_take (i := 12) (v := ?_) rfl (by kernel_rfl) (by kernel_rfl) (by kernel_rfl) (fun _ _ _ h => h) (Or.inl ⟨by rfl, ?_⟩) (by assumption) ?_
          rotate_left
          · (intro w hSw; (try dsimp only at hSw); go_simp <;> with_reducible rfl)
          (try simp only [Act.put, List.setIfInBounds_toArray, List.set_cons_zero, List.set_cons_succ])
          refine hand_take (i := 13) (v := ?_) rfl (by kernel_rfl) (by kernel_rfl) (by kernel_rfl) (fun _ _ _ h => h) (Or.inl ⟨by rfl, ?_⟩) (by assumption) ?_
          rotate_left
          · (intro w hSw; (try dsimp only at hSw); go_simp <;> with_reducible rfl)
          (try simp only [Act.put, List.setIfInBounds_toArray, List.set_cons_zero, List.set_cons_succ])
          refine hand_take (i := 14) (v := ?_) rfl (by kernel_rfl) (by kernel_rfl) (by kernel_rfl) (fun _ _ _ h => h) (Or.inl ⟨by rfl, ?_⟩) (by assumption) ?_
          rotate_left
          · (intro w hSw; (try dsimp only at hSw); go_simp <;> with_reducible rfl)
          (try simp only [Act.put, List.setIfInBounds_toArray, List.set_cons_zero, List.set_cons_succ])
          refine hand_take (i := 15) (v := ?_) rfl (by kernel_rfl) (by kernel_rfl) (by kernel_rfl) (fun _ _ _ h => h) (Or.inl ⟨by rfl, ?_⟩) (by assumption) ?_
          rotate_left
          · (intro w hSw; (try dsimp only at hSw); go_simp <;> with_reducible rfl)
          (try simp only [Act.put, List.setIfInBounds_toArray, List.set_cons_zero, List.set_cons_succ])
          refine wpAnyH_done (by kernel_rfl) ?_ _
          go_wp2_with fail
          go_meet
          exact ⟨_, _, _, rfl, rfl, by rw [HE2.out], HA4.out, M3.out⟩
      case rest =>
        obtain ⟨v12, cols', t', rfl, rfl, rfl, hasg, m⟩ := hcut
        have HA1 := Lib.hid hasg
        have M9 := Lib.hid ((M0.out.trans N4.out).trans m)
        clear hasg m
        by_cases he0 : e1 = 0
        · subst he0
          obtain ⟨q1, q2⟩ := HLM.out _ _ _ _ HE1.out HA0.out HA1.out
          go_wp2_with (go_at_call 10; refine (awakeK_any _).mono ?_; rintro e w5 ⟨rfl, m⟩)
          have M10 := Lib.hid (M9.out.trans m)
          clear m
          go_wp2_with fail
          go_ret
          exact ⟨rfl, M10.out⟩
        · have hb : (e1 != 0) = true := bne_iff_ne.2 he0
          go_wp2_with (go_at_call 10; refine (awakeK_any _).mono ?_; rintro e w5 ⟨rfl, m⟩)
          have M10 := Lib.hid (M9.out.trans m)
          clear m
          go_wp2_with fail
          go_ret
          exact ⟨rfl, M10.out⟩

end Go.Proofs.Ytnacoglfhhenhaa
