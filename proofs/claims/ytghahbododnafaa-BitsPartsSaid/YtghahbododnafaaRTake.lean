/- The walks of the reference's Take, and of both Whole. -/
import Derived.Test.YtghahbododnafaaTake
namespace Go.Proofs.Ytghahbododnafaa
open Go.RowKit
open Bt

set_option maxHeartbeats 1000000 in
theorem rtake_arg (g : Nat) (bits : Int) (w : World) (h : bits < 0 ∨ 32 < bits) :
    Calls Try.prog 20 #[.pointer (some ⟨g, 0, none⟩), .int .i64 bits] w fun e w' => e = .returned (.tuple #[.int .u64 0, .int .i64 1]) ∧ Same w w' := by
  by_cases h1 : bits < 0
  · go_enter Try.func20, Try.ntmps20
    go_wp2
    go_ret2
    exact ⟨rfl, Fr.refl _ _⟩
  · have h2 : 32 < bits := by omega
    clear h
    go_enter Try.func20, Try.ntmps20
    go_wp2
    go_ret2
    exact ⟨rfl, Fr.refl _ _⟩

set_option maxHeartbeats 1000000 in
theorem rtake_short (g : Nat) (v : Value) (L : List Bool) (p : Nat) (bits : Int) (w : World) (hw : IsB w g v L p) (hL : L.length ≤ 1000000) (hp : p ≤ L.length) (h : 0 ≤ bits) (h2 : bits ≤ 32) (h3 : (L.length : Int) - p < bits) :
    Calls Try.prog 20 #[.pointer (some ⟨g, 0, none⟩), .int .i64 bits] w fun e w' => e = .returned (.tuple #[.int .u64 0, .int .i64 120]) ∧ Same w w' := by
  have HL := Lib.hid (rleft_any g v L p w hw hL hp)
  clear hw
  go_enter Try.func20, Try.ntmps20
  go_wp2_with (go_at_call 22; refine HL.out.mono ?_; rintro e w1 ⟨rfl, hs⟩; have HS := Lib.hid hs; clear hs)
  go_ret2
  exact ⟨rfl, HS.out⟩

theorem rtake_sum {R : List Bool} {k : Nat} (hR : R.length = k) (hk : k < 32) :
    IntKind.u64.wrap ((val R : Int) + IntKind.u64.wrap (2 ^ k)) = (val (R ++ [true]) : Int) := by
  subst hR
  have e : ((2 : Int) ^ R.length) = ((2 ^ R.length : Nat) : Int) := by simp
  have h2 : 2 ^ R.length ≤ 2 ^ 32 := Nat.pow_le_pow_right (by omega) (by omega)
  have hv := val_lt R
  rw [val_snoc, e]
  simp only [IntKind.wrap_u64, Bool.toNat_true, Nat.mul_one]
  clear e
  generalize 2 ^ R.length = m at *
  omega

set_option maxHeartbeats 1000000 in
theorem rtake_good (g : Nat) (v : Value) (L : List Bool) (p : Nat) (bits : Int) (w : World) (hw : IsB w g v L p) (hL : L.length ≤ 1000000) (hp : p ≤ L.length) (h : 0 ≤ bits) (h2 : bits ≤ 32) (h3 : ¬ (L.length : Int) - p < bits) :
    Calls Try.prog 20 #[.pointer (some ⟨g, 0, none⟩), .int .i64 bits] w fun e w' => e = .returned (.tuple #[.int .u64 (val ((L.drop p).take bits.toNat)), .int .i64 0]) ∧ IsB w' g v L ((p + bits.toNat : Nat)) ∧ Fr (fun j => j = g) w w' := by
  have HL := Lib.hid (rleft_any g v L p w hw hL hp)
  have HW := Lib.hid hw; clear hw
  go_enter Try.func20, Try.ntmps20
  go_wp2_with (go_at_call 22; refine HL.out.mono ?_; rintro e w1 ⟨rfl, hs⟩; have HS := Lib.hid hs; clear hs)
  go_loopw [6, 7] (fun n i wr => ∃ (k : Nat), (k : Int) ≤ bits ∧ i = .int .i64 k ∧ n = .int .u64 (val ((L.drop p).take k)) ∧ IsB wr g v L ((p + k : Nat)) ∧ Fr (fun j => j = g) w wr) (fun _ i _ => (bits - intOf i).toNat)
  case atStart => exact ⟨0, h, rfl, by simp [val], HW.out.same HS.out, HS.out.mono (fun _ _ h => h.elim)⟩
  case round =>
    obtain ⟨k, hk, rfl, rfl, hB, hF⟩ := hrel
    have c0 : wr.cell? ⟨g, 0, none⟩ = some v := by rw [blk_cell hB.blk]; rfl
    have c1 : wr.cell? ⟨g, 1, none⟩ = some (.int .i64 ((p + k : Nat))) := by rw [blk_cell hB.blk]; rfl
    have f1 := blk_frozen hB.blk 1
    by_cases hkb : (k : Int) < bits
    · obtain ⟨q, hq⟩ : ∃ q, q = p + k := ⟨_, rfl⟩
      rw [← hq] at c1 hB
      have hql : q < L.length := by omega
      obtain ⟨b, c, rfl, hc⟩ := own_cells hB.own (by omega)
      have cq : wr.cell? ⟨b, q, none⟩ = some (.bool L[q]) := hc q _ (by simp [hql])
      have hne := own_ne hB.own hB.blk (by decide)
      clear hc
      have hlk : ((L.drop p).take k).length = k := by rw [List.length_take, List.length_drop]; omega
      have HE := Lib.hid (show (L.drop p).take (k + 1) = (L.drop p).take k ++ [L[q]] by
        subst hq
        rw [List.take_succ_eq_append_getElem (by rw [List.length_drop]; omega), List.getElem_drop])
      have key : ∀ i : Int, i = ((p + (k + 1) : Nat) : Int) → ∀ w2, Same wr w2 → IsB (w2.setCell ⟨g, 1, none⟩ (.int .i64 i)) g (.slice (some ⟨b, 0, none⟩) L.length c) L ((p + (k + 1) : Nat)) ∧ Fr (fun j => j = g) w (w2.setCell ⟨g, 1, none⟩ (.int .i64 i)) := by
        intro i hi w2 hs
        subst hi
        have f2 : Fr (fun j => j = g) w2 (w2.setCell ⟨g, 1, none⟩ (.int .i64 ((p + (k + 1) : Nat)))) := (Fr.refl (fun j => j = g) w2).setCell ⟨g, 1, none⟩ _ (fun _ => rfl)
        have hB2 := hB.same hs
        refine ⟨⟨?_, f2.own hB2.own (fun j hj e => hne (by rw [← e]; exact hj))⟩, hF.trans (hs.trans f2 (fun _ _ h => h.elim) (fun _ _ h => h)) (fun _ _ h => h) (fun _ _ h => h)⟩
        rw [blk_set hB2.blk 1 _]; simp
      have KEY := Lib.hid key; clear key
      have HQ := Lib.hid hq; clear hq
      have HB := Lib.hid hB; clear hB
      have HF := Lib.hid hF; clear hF
      have hadd : (q : Int) + 1 ≤ 9223372036854775807 := by omega
      cases hb : L[q] with
      | false =>
        rw [hb] at cq
        have HBB := Lib.hid hb; clear hb
        go_wp2
        go_quiet (fail)
        go_wp2
        go_roundw
        case rel =>
          have E := HE.out
          rw [HBB.out] at E
          have k2 := KEY.out ((q : Int) + 1) (by have := HQ.out; omega) _ ((Fr.refl _ _).drewN nq)
          exact ⟨k + 1, by omega, by go_num, by rw [E, val_snoc]; simp, k2.1, k2.2⟩
        case measure => simp [intOf]; omega
      | true =>
        rw [hb] at cq
        have HBB := Lib.hid hb; clear hb
        have HLK := Lib.hid hlk; clear hlk
        go_wp2
        go_quiet (fail)
        go_wp2
        go_roundw
        case rel =>
          have E := HE.out
          rw [HBB.out] at E
          have k2 := KEY.out ((q : Int) + 1) (by have := HQ.out; omega) _ ((Fr.refl _ _).drewN nq)
          exact ⟨k + 1, by omega, by go_num, by rw [E, ← rtake_sum HLK.out (by omega)], k2.1, k2.2⟩
        case measure => simp [intOf]; omega
    · obtain rfl : bits = k := by omega
      have HB := Lib.hid hB; clear hB
      have HF := Lib.hid hF; clear hF
      go_wp2
      go_ret2
      exact ⟨rfl, HB.out, HF.out⟩
end Go.Proofs.Ytghahbododnafaa
