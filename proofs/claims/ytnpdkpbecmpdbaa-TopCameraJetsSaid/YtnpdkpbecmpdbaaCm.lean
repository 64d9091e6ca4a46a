/-
  camera: See of an eye.
-/
import Derived.Test.YtnpdkpbecmpdbaaCl
set_option linter.unusedVariables false
set_option linter.unusedSimpArgs false
namespace Go.Proofs.Ytnpdkpbecmpdbaa
open Go.RowKit

theorem Grid.modD {w w' : World} {base top B n i m : Nat} {F : Nat → Nat → Int} {D : Nat → Prop} (h : Grid w base top B n i m F) (hm : Mod D w w') (hB : base ≤ B) (hd : ∀ b, base ≤ b → ¬ D b) : Grid w' base top B n i m F := by
  obtain ⟨f, g, h1, h2, h3⟩ := h
  exact ⟨f, g, h1.of_block (hm.block _ h1.lt (hd _ hB)), fun k hk => ⟨(h2 k hk).1, (h2 k hk).2.1, (h2 k hk).2.2.1, (h2 k hk).2.2.2.1, (h2 k hk).2.2.2.2.of_block (hm.block _ (h2 k hk).2.2.2.2.lt (hd _ (h2 k hk).2.1))⟩, h3⟩

/-- What an eye owes behind a mix. -/
def seeO (rss oss : List (List Int)) (xs : List Int) : List (List Int) := (List.range rss.length).map fun k => nextO (rx rss k) (rx oss k) (ix xs k)
/-- The classes of a mix. -/
def seeL (rss oss : List (List Int)) (xs : List Int) : List (List Int) := (List.range (rx rss 0).length).map fun c => (List.range rss.length).map fun k => ix (nextP (rx rss k) (rx oss k) (ix xs k)) c
theorem seeO_length (rss oss : List (List Int)) (xs : List Int) : (seeO rss oss xs).length = rss.length := by simp [seeO]
theorem seeL_length (rss oss : List (List Int)) (xs : List Int) : (seeL rss oss xs).length = (rx rss 0).length := by simp [seeL]
theorem rx_seeO {rss oss : List (List Int)} {xs : List Int} {k : Nat} (h : k < rss.length) : rx (seeO rss oss xs) k = nextO (rx rss k) (rx oss k) (ix xs k) := by
  rw [rx_eq (by rw [seeO_length]; exact h)]; simp [seeO]
theorem rx_seeL {rss oss : List (List Int)} {xs : List Int} {c : Nat} (h : c < (rx rss 0).length) : rx (seeL rss oss xs) c = (List.range rss.length).map fun k => ix (nextP (rx rss k) (rx oss k) (ix xs k)) c := by
  rw [rx_eq (by rw [seeL_length]; exact h)]; simp [seeL]
/-- The eyes that a program can make. -/
structure EyeOk (rss oss : List (List Int)) : Prop where
  one : 1 ≤ rss.length
  few : rss.length ≤ 16
  rows : ∀ k, k < rss.length → rowE (rx rss k) = 0
  same : ∀ k, k < rss.length → (rx rss k).length = (rx rss 0).length
  owed : ∀ k, k < rss.length → OkO (rx rss k) (rx oss k)
theorem EyeOk.new {l : List (List Int)} {m : Int} (h : camE l m = 0) : EyeOk l (zeros l) := by
  obtain ⟨h1, h2, h3, h4, h5⟩ := cam_ok h
  exact ⟨h1, h2, h4, h5, fun k hk => by rw [rx_zeros hk]; exact OkO.new _⟩
theorem EyeOk.see {rss oss : List (List Int)} (h : EyeOk rss oss) (xs : List Int) : EyeOk rss (seeO rss oss xs) :=
  ⟨h.one, h.few, h.rows, h.same, fun k hk => by rw [rx_seeO hk]; exact (h.owed k hk).next (h.rows k hk) _⟩
def seeE (n : Nat) (xs : List Int) : Int := if faultL xs ≠ 0 then faultL xs else if xs.length = n then 0 else 18
theorem seeE_ok {n : Nat} {xs : List Int} (h : seeE n xs = 0) : faultL xs = 0 ∧ xs.length = n := by
  unfold seeE at h
  split at h
  · next h1 => exact absurd h h1
  · next h1 =>
    split at h
    · next h2 => exact ⟨by omega, h2⟩
    · exact absurd h (by decide)

theorem EyeIs.owed {w : World} {lo hi p q cp : Nat} {g : Nat → Nat} {rss oss oss' : List (List Int)} (h : EyeIs w lo hi p q cp g rss oss) (e : ∀ k, k < rss.length → rx oss k = rx oss' k) : EyeIs w lo hi p q cp g rss oss' :=
  ⟨h.box, h.row, fun k hk => by rw [← e k hk]; exact h.car k hk, h.inj, h.pb, h.qb⟩
/-- Carry k of an eye has turned. -/
theorem EyeIs.turn {w w' : World} {lo hi p q cp : Nat} {g : Nat → Nat} {rss oss oss' : List (List Int)} (h : EyeIs w lo hi p q cp g rss oss) {k : Nat} (hk : k < rss.length) (m : Mod (fun b => b = g k) w w') (hc : CarryAt w' (g k) (rx rss k) (rx oss' k)) (e : ∀ j, j < rss.length → j ≠ k → rx oss j = rx oss' j) : EyeIs w' lo hi p q cp g rss oss' := by
  have hck := h.car k hk
  refine ⟨h.box.of_block (m.block p h.box.lt (fun e => hck.2.2.2.1 e.symm)), fun j hj => m.cell (h.row j hj) (fun e => hck.2.2.2.2 e.symm), fun j hj => ⟨?_, (h.car j hj).2⟩, h.inj, h.pb, h.qb⟩
  by_cases hjk : j = k
  · subst hjk; exact hc
  · rw [← e j hj hjk]
    exact (h.car j hj).1.mod m (fun e2 => hjk (h.inj j k hj hk e2))

theorem seeNil_any (v : Value) (w : World) : Calls Try.prog 9 #[.pointer none, v] w fun e w' => e = .returned (.tuple #[.slice none 0 0, .int .i64 14]) ∧ w = w' := by
  go_enter Try.func9, Try.ntmps9
  go_wp2
  go_ret2
  exact ⟨rfl, rfl⟩

set_option maxRecDepth 100000 in
set_option maxHeartbeats 1600000 in
theorem see_bad (lo hi p : Nat) (rss oss : List (List Int)) (a : Option Addr) (c : Nat) (xs : List Int) (D : Nat → Prop) (w : World) (he : EyeAt w lo hi p rss oss) (hx : Ints D w a xs) (h16 : rss.length ≤ 16) (h : ¬ seeE rss.length xs = 0) :
    Calls Try.prog 9 #[.pointer (some ⟨p, 0, none⟩), .slice a xs.length c] w fun e w' => e = .returned (.tuple #[.slice none 0 0, .int .i64 (seeE rss.length xs)]) ∧ Mod NoBlock w w' := by
  obtain ⟨q, cp, g, he⟩ := he
  have HE := Lib.hid he
  have HX := Lib.hid hx
  have n16 : (rss.length : Int) ≤ 16 := by omega
  clear he hx
  by_cases hf : faultL xs = 0
  · obtain ⟨l16, _⟩ := ok_of_fault hf
    have Ht := Lib.hid (totL_ok hf)
    have hne : ¬ xs.length = rss.length := fun e => h (by unfold seeE; rw [if_neg (by simpa using hf), if_pos e])
    have hE : seeE rss.length xs = 18 := by unfold seeE; rw [if_neg (by simpa using hf), if_neg hne]
    rw [hE]
    have n1 : ¬ (xs.length : Int) = rss.length := by omega
    clear h hf hE
    go_enter Try.func9, Try.ntmps9
    go_wp2_with fail
    refine (matTotal_any _ _ _ _ _ HX.out).mono ?_
    rw [Ht.out]
    rintro e w1 ⟨rfl, m1⟩
    have hc0 : w1.cell? ⟨p, 0, none⟩ = some (.slice (some ⟨q, 0, none⟩) rss.length cp) := m1.cell (HE.out.box.cell (by omega)) id
    have M := Lib.hid m1
    clear m1
    go_wp2
    go_ret2
    exact ⟨rfl, M.out⟩
  · have Ht := Lib.hid (totL_bad hf)
    have hE : seeE rss.length xs = faultL xs := by unfold seeE; rw [if_pos hf]
    have hne : (faultL xs != 0) = true := by simpa using hf
    rw [hE]
    clear h hf hE
    go_enter Try.func9, Try.ntmps9
    go_wp2_with fail
    refine (matTotal_any _ _ _ _ _ HX.out).mono ?_
    rw [Ht.out]
    rintro e w1 ⟨rfl, m1⟩
    have M := Lib.hid m1
    clear m1
    go_wp2
    go_ret2
    exact ⟨rfl, M.out⟩

end Go.Proofs.Ytnpdkpbecmpdbaa
