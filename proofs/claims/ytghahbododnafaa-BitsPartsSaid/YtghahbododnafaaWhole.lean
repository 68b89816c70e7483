/- The walks of both Whole. -/
import Derived.Test.YtghahbododnafaaRTake
namespace Go.Proofs.Ytghahbododnafaa
open Go.RowKit
open Bt

/-- the next whole byte's place -/
def up (p : Nat) : Nat := 8 * ((p + 7) / 8)
theorem up_of {p : Nat} (h : p % 8 = 0) : up p = p := by unfold up; omega
theorem up_not {p : Nat} (h : p % 8 ≠ 0) : up p = p + (8 - p % 8) := by unfold up; omega
def zeros (L : List Bool) (p q : Nat) : Bool := val ((L.drop p).take (q - p)) == 0

theorem ret_bool {a b : Bool} (h : a = b) : Ending.returned (.bool a) = .returned (.bool b) := by rw [h]

set_option maxHeartbeats 1000000 in
theorem whole_any (g : Nat) (A : Option Addr) (c : Nat) (xs : List Int) (p : Nat) (w : World) (hw : IsR w g A c xs p) (hx : ∀ x ∈ xs, 0 ≤ x ∧ x ≤ 255) (hL : xs.length ≤ 1000000) (hp : p ≤ 8 * xs.length) :
    Calls Try.prog 17 #[.pointer (some ⟨g, 0, none⟩)] w fun e w' => e = .returned (.bool (zeros (unbits xs) p (up p))) ∧ IsR w' g A c xs ((up p : Nat)) ∧ Fr (fun j => j = g) w w' := by
  have c1 : w.cell? ⟨g, 1, none⟩ = some (.int .i64 p) := by rw [blk_cell hw.blk]; rfl
  by_cases h8 : p % 8 = 0
  · have h8' : ((p : Int) % 8 == 0) = true := by rw [beq_iff_eq]; omega
    have HW := Lib.hid hw; clear hw
    have HU := Lib.hid (up_of h8)
    clear h8
    go_enter Try.func17, Try.ntmps17
    go_wp2
    go_ret
    refine ⟨?_, by rw [HU.out]; exact HW.out, Fr.refl _ _⟩
    rw [HU.out]
    exact ret_bool (by simp [zeros, val])
  · have h8' : ((p : Int) % 8 == 0) = false := by rw [beq_eq_false_iff_ne]; omega
    have ht := take_good g A c xs p (8 - (p : Int) % 8) w hw hx hL hp (by omega) (by omega) (by omega)
    rw [show ((8 : Int) - (p : Int) % 8).toNat = 8 - p % 8 from by omega, ← up_not h8, show 8 - p % 8 = up p - p from by rw [up_not h8]; omega] at ht
    have HT := Lib.hid ht; clear ht hw
    go_enter Try.func17, Try.ntmps17
    go_wp2_with (go_at_call 19; refine HT.out.mono ?_; rintro e w1 ⟨rfl, hr, hf⟩; have HR := Lib.hid hr; clear hr; have HF := Lib.hid hf; clear hf)
    go_ret
    exact ⟨ret_bool (by unfold zeros; rw [Bool.eq_iff_iff, beq_iff_eq, beq_iff_eq]; omega), HR.out, HF.out⟩

def RMu (g r : Nat) (w : World) : Nat := match w.cell? ⟨g, 1, none⟩ with | some (.int _ n) => r - n.toNat | _ => 0
theorem rMu_at {w : World} {g r : Nat} {v : Value} {L : List Bool} {q : Nat} (h : IsB w g v L q) : RMu g r w = r - q := by
  unfold RMu
  rw [blk_cell h.blk]
  simp

theorem zeros_succ (L : List Bool) (p k : Nat) (h : p + k < L.length) : zeros L p (p + (k + 1)) = (zeros L p (p + k) && !L.getD (p + k) false) := by
  unfold zeros
  have e : L.getD (p + k) false = L[p + k] := by simp [List.getD, h]
  rw [e, show p + (k + 1) - p = k + 1 from by omega, show p + k - p = k from by omega, List.take_succ_eq_append_getElem (by rw [List.length_drop]; omega), List.getElem_drop, val_snoc]
  have h2 : 0 < 2 ^ ((L.drop p).take k).length := Nat.two_pow_pos _
  cases L[p + k] <;> simp <;> omega

set_option maxHeartbeats 2000000 in
theorem rwhole_any (g : Nat) (v : Value) (L : List Bool) (p : Nat) (w : World) (hw : IsB w g v L p) (hL : L.length ≤ 1000000) (hp : p ≤ L.length) (hL8 : L.length % 8 = 0) :
    Calls Try.prog 18 #[.pointer (some ⟨g, 0, none⟩)] w fun e w' => e = .returned (.bool (zeros L p (up p))) ∧ IsB w' g v L ((up p : Nat)) ∧ Fr (fun j => j = g) w w' := by
  have HW := Lib.hid hw; clear hw
  have hup : up p ≤ L.length := by unfold up; omega
  have hup0 : up p % 8 = 0 := by unfold up; omega
  have hup1 : p ≤ up p := by unfold up; omega
  have hup2 : up p < p + 8 := by unfold up; omega
  generalize hU : up p = U at *
  clear hU
  go_enter Try.func18, Try.ntmps18
  go_wp2
  go_loopw [3] (fun z wr => ∃ (k : Nat), p + k ≤ U ∧ z = .bool (zeros L p (p + k)) ∧ IsB wr g v L ((p + k : Nat)) ∧ Fr (fun j => j = g) w wr) (fun _ wr => RMu g U wr)
  case atStart => exact ⟨0, hup1, by simp [zeros, val], HW.out, Fr.refl _ _⟩
  case round =>
    obtain ⟨k, hk, rfl, hB, hF⟩ := hrel
    have c0 : wr.cell? ⟨g, 0, none⟩ = some v := by rw [blk_cell hB.blk]; rfl
    have hne := own_ne hB.own hB.blk (by decide)
    have key : ∀ i : Int, i = ((p + (k + 1) : Nat) : Int) → ∀ w2, Same wr w2 → IsB (w2.setCell ⟨g, 1, none⟩ (.int .i64 i)) g v L ((p + (k + 1) : Nat)) ∧ Fr (fun j => j = g) w (w2.setCell ⟨g, 1, none⟩ (.int .i64 i)) := by
      intro i hi w2 hs
      subst hi
      have f2 : Fr (fun j => j = g) w2 (w2.setCell ⟨g, 1, none⟩ (.int .i64 ((p + (k + 1) : Nat)))) := (Fr.refl (fun j => j = g) w2).setCell ⟨g, 1, none⟩ _ (fun _ => rfl)
      have hB2 := hB.same hs
      refine ⟨⟨?_, f2.own hB2.own (fun j hj e => hne (by rw [← e]; exact hj))⟩, hF.trans (hs.trans f2 (fun _ _ h => h.elim) (fun _ _ h => h)) (fun _ _ h => h) (fun _ _ h => h)⟩
      rw [blk_set hB2.blk 1 _]; simp
    have KEY := Lib.hid key; clear key
    have HMu := Lib.hid (rMu_at (r := U) hB)
    obtain ⟨q, hq⟩ : ∃ q, q = p + k := ⟨_, rfl⟩
    have HB := Lib.hid hB
    have HF := Lib.hid hF; clear hF
    have HE := fun h => zeros_succ L p k h
    generalize hz : zeros L p (p + k) = z at *
    rw [← hq] at hB HE
    have c1 : wr.cell? ⟨g, 1, none⟩ = some (.int .i64 q) := by rw [blk_cell hB.blk]; rfl
    have f1 := blk_frozen hB.blk 1
    by_cases hkb : q < U
    · have hql : q < L.length := by omega
      have hq8 : ((q : Int) % 8 != 0) = true := by rw [bne_iff_ne]; omega
      obtain ⟨b, c, rfl, hc⟩ := own_cells hB.own (by omega)
      have cq : wr.cell? ⟨b, q, none⟩ = some (.bool (L.getD q false)) := hc q _ (by simp [hql])
      clear hc hB
      have HE := Lib.hid (HE hql)
      have HZ := Lib.hid hz; clear hz
      have hk1 := Lib.hid (show p + (k + 1) ≤ U by omega)
      have HQ := Lib.hid hq; clear hq hk
      have hadd : (q : Int) + 1 ≤ 9223372036854775807 := by omega
      cases hb : L.getD q false <;> rw [hb] at cq <;> have HBB := Lib.hid hb <;> clear hb <;> cases z
      all_goals
        go_wp2
        go_quiet (fail)
        go_wp2
        go_roundw
        case rel =>
          have k2 := KEY.out ((q : Int) + 1) (by have := HQ.out; omega) _ ((Fr.refl _ _).drewN nq)
          exact ⟨k + 1, hk1.out, by rw [HE.out, HBB.out]; rfl, k2.1, k2.2⟩
        case measure =>
          have k2 := KEY.out ((q : Int) + 1) (by have := HQ.out; omega) _ ((Fr.refl _ _).drewN nq)
          rw [rMu_at k2.1, HMu.out]
          have := hk1.out
          omega
    · obtain rfl : q = U := by omega
      have hq8 : ((q : Int) % 8 != 0) = false := by rw [bne_eq_false_iff_eq]; omega
      clear hB
      have HZ := Lib.hid hz; clear hz
      have HQ := Lib.hid hq; clear hq
      go_wp2
      go_ret
      have E := HQ.out
      exact ⟨ret_bool (by rw [← HZ.out, E]), by rw [E]; exact HB.out, HF.out⟩
end Go.Proofs.Ytghahbododnafaa
