/- The walk of BitsPuts. -/
import Derived.Test.YtghahbododnafaaPutAny
import Derived.StillTailTactics
namespace Go.Proofs.Ytghahbododnafaa
open Go.RowKit
open Bt

set_option maxHeartbeats 4000000 in
theorem bitsPuts_walk (w : World) (a0 : Option Addr) (len0 cap0 : Nat) (cl : Nat → Int × Int × Bool) (hr : ReadsCalls w a0 len0 cl) :
    Calls Try.prog 4 #[.slice a0 len0 cap0] w fun e w' => e = .returned (.bool true) ∧ Below w.heap.size w w' := by
  have HR := Lib.hid hr; clear hr
  go_enter Try.func4, Try.ntmps4
  go_wp2_with (go_at_call 9; refine (awake_any w).mono ?_; rintro e w1 ⟨rfl, hb⟩; have HB := Lib.hid hb; clear hb)
  have hg1 : w.heap.size ≤ w1.heap.size := HB.out.size
  have hsmall := HR.out.small
  go_loopw [6] (fun i wr => ∃ (k : Nat) (v vb : Value) (L : List Bool), k ≤ len0 ∧ k ≤ 100 ∧ i = .int .i64 k ∧ L.length ≤ 32 * k ∧ IsW wr w1.heap.size v L ∧ IsB wr (w1.heap.size + 1) vb L 0 ∧ From w.heap.size v ∧ From w.heap.size vb ∧ Below w.heap.size w wr) (fun i _ => len0 - (intOf i).toNat)
  case atStart =>
    have h1 := isW_new w1
    have h2 := isB_new (w1.alloc (.cells #[.slice none 0 0, .int .u64 0, .int .i64 0] 28))
    rw [World.size_alloc] at h2
    exact ⟨0, _, _, [], Nat.zero_le _, Nat.zero_le _, rfl, Nat.le_refl _, h1.same ((Fr.refl _ _).alloc _), h2, From.none _ _ _, From.none _ _ _, (HB.out.alloc hg1 _).alloc (by simp; omega) _⟩
  case round =>
    obtain ⟨k, v, vb, L, hk, hk2, rfl, hL, hW, hB, hv, hvb, hbel⟩ := hrel
    by_cases hkl : k < len0
    · by_cases hk100 : (k : Int) < 100
      · obtain ⟨bb, o, rfl, c0, c1, c2⟩ := HR.out.at_ hbel hkl
        have n0 := HR.out.num k hkl
        generalize cl k = call at *
        obtain ⟨num, bits, wh⟩ := call
        simp only at c0 c1 c2 n0
        have hpl := pl_len L num bits
        have HP := Lib.hid (fun W h => put_any w1.heap.size v L num bits W n0.1 h (by omega))
        have HQ := Lib.hid (fun W h => rput_any (w1.heap.size + 1) vb L 0 num bits W n0.1 n0.2 h (by omega))
        have HW := Lib.hid hW; clear hW
        have HBB := Lib.hid hB; clear hB
        have hbb : bb < w.heap.size := by
          obtain ⟨b', o', e', c0', _⟩ := HR.out.at_ (Below.refl _ _) hkl
          injection e' with e'; injection e' with e1 e2; subst e1
          exact World.block_lt_of_cell? _ _ c0'
        have HBel := Lib.hid hbel; clear hbel
        have HV := Lib.hid hv; clear hv
        have HVB := Lib.hid hvb; clear hvb
        rcases pe_cases num bits with hpe | hpe <;> rw [hpe] at HP HQ <;> clear hpe
        all_goals
          go_wp2
          go_still_tail 11, (by kernel_rfl)
          change wpList _ _ _ _ _ wr.drew
          go_wp2_with (go_at_call 10; refine (HP.out _ (HW.out.same (Fr.refl _ _).drew)).mono ?_; rintro e w2 ⟨rfl, v2, h2, t2⟩; have TB := t2.below (B := w.heap.size) HBel.out.drew.size hg1 HV.out; have B2 := HBel.out.drew.trans TB.1; have d0 := (TB.1.cell (p := ⟨bb, o + k * 3, none⟩) hbb).trans c0; have d1 := (TB.1.cell (p := ⟨bb, o + k * 3 + 1, none⟩) hbb).trans c1; have BB2 := (HBB.out.same (Fr.refl _ _).drew).turn (HW.out.same (Fr.refl _ _).drew) t2; have H2 := Lib.hid h2; have HB2 := Lib.hid B2; have HBB2 := Lib.hid BB2; have HV2 := Lib.hid TB.2; clear h2 t2 TB B2 BB2)
          go_still_tail 11, (by kernel_rfl)
          change wpList _ _ _ _ _ w2.drew
          go_wp2_with (go_at_call 11; refine (HQ.out _ (HBB2.out.same (Fr.refl _ _).drew)).mono ?_; rintro e w3 ⟨rfl, vb3, h3, t3⟩; have TB := t3.below (B := w.heap.size) HB2.out.drew.size (by omega) HVB.out; have B3 := HB2.out.drew.trans TB.1; have W3 := (H2.out.same (Fr.refl _ _).drew).turn (HBB2.out.same (Fr.refl _ _).drew) t3; have H3 := Lib.hid h3; have HB3 := Lib.hid B3; have HW3 := Lib.hid W3; have HV3 := Lib.hid TB.2; have g0 : w3.cell? ⟨w1.heap.size + 1, 0, none⟩ = some vb3 := (by rw [blk_cell h3.blk]; rfl); obtain ⟨A3, k3, rfl⟩ := own_shape h3.own; clear h3 t3 TB B3 W3)
          go_quiet ((go_at_call 12; exact Calls.quiet_of (count_q _ _ _ _ (HW3.out.same ((Fr.refl _ _).drewN _)) (by omega))))
          go_wp2
          go_roundw
          case rel =>
            have HD : Same w3 (w3.drewN nq) := (Fr.refl _ _).drewN _
            exact ⟨k + 1, v2, _, pl L num bits, by omega, by omega, by go_num, by omega, HW3.out.same HD, H3.out.same HD, HV2.out, HV3.out, HB3.out.trans (HD.belowSame HB3.out.size)⟩
          case measure => simp [intOf]; omega
      · have hk100' : ¬ (k : Int) < 100 := hk100
        have HW := Lib.hid hW; clear hW
        have HBB := Lib.hid hB; clear hB
        have HBel := Lib.hid hbel; clear hbel
        have hL2 : L.length ≤ 1000000 := by omega
        go_wp2
        go_region_with (first
          | (go_at_call 13; refine (wbytes_any _ _ L _ (by exact HW.out.same (Fr.refl _ _).drew) hL2).mono ?_; rintro e w2 ⟨v2, rfl, h2, s2, f2⟩; obtain ⟨A2, c2, rfl, r2⟩ := own_reads h2; have q2 := conv_reads (c := c2) r2; have HR2 := Lib.hid r2; have HS2 := Lib.hid s2; clear r2 s2 h2 f2)
          | (go_at_call 14; refine (rbytes_any _ _ L 0 _ (by exact HBB.out.same ((Fr.refl _ _).drew.trans' HS2.out)) hL2).mono ?_; rintro e w3 ⟨v3, rfl, h3, s3, f3⟩; obtain ⟨A3, c3, rfl, r3⟩ := own_reads h3; have q3 := conv_reads (c := c3) r3; have q4 := conv_reads (c := c2) (HR2.out.fr s3 (fun _ _ _ h => h)); have HS3 := Lib.hid s3; clear r3 s3 h3 f3))
        all_goals
          go_wp2
          go_ret
          exact ⟨ret_bool (by simp), HBel.out.drew.trans ((HS2.out.belowSame HBel.out.size).trans (HS3.out.belowSame (Nat.le_trans HBel.out.size HS2.out.size)))⟩
    · have hkl' : ¬ (k : Int) < len0 := by omega
      have HW := Lib.hid hW; clear hW
      have HBB := Lib.hid hB; clear hB
      have HBel := Lib.hid hbel; clear hbel
      have hL2 : L.length ≤ 1000000 := by omega
      go_wp2
      go_region_with (first
        | (go_at_call 13; refine (wbytes_any _ _ L _ (by exact HW.out.same (Fr.refl _ _).drew) hL2).mono ?_; rintro e w2 ⟨v2, rfl, h2, s2, f2⟩; obtain ⟨A2, c2, rfl, r2⟩ := own_reads h2; have q2 := conv_reads (c := c2) r2; have HR2 := Lib.hid r2; have HS2 := Lib.hid s2; clear r2 s2 h2 f2)
        | (go_at_call 14; refine (rbytes_any _ _ L 0 _ (by exact HBB.out.same ((Fr.refl _ _).drew.trans' HS2.out)) hL2).mono ?_; rintro e w3 ⟨v3, rfl, h3, s3, f3⟩; obtain ⟨A3, c3, rfl, r3⟩ := own_reads h3; have q3 := conv_reads (c := c3) r3; have q4 := conv_reads (c := c2) (HR2.out.fr s3 (fun _ _ _ h => h)); have HS3 := Lib.hid s3; clear r3 s3 h3 f3))
      all_goals
        go_wp2
        go_ret
        exact ⟨ret_bool (by simp), HBel.out.drew.trans ((HS2.out.belowSame HBel.out.size).trans (HS3.out.belowSame (Nat.le_trans HBel.out.size HS2.out.size)))⟩
end Go.Proofs.Ytghahbododnafaa
