/- The walk of BitsOwn. -/
import Derived.Test.YtghahbododnafaaWBack
namespace Go.Proofs.Ytghahbododnafaa
open Go.RowKit
open Bt

theorem bytes_turn {w0 w : World} {g n : Nat} {v0 v vb : Value} {L : List Bool} {xs : List Value} (h : w0.ownsRow 0 5 1 vb n xs) (hw : IsW w0 g v0 L) (hd : ∀ j, vb.ownBlock = some j → v0.ownBlock ≠ some j) (t : WTurn w0 w g v0 v) :
    w.ownsRow 0 5 1 vb n xs ∧ ∀ j, vb.ownBlock = some j → v.ownBlock ≠ some j := by
  refine ⟨t.fr.own h (fun j hj e => ?_), fun j hj e => ?_⟩
  · rcases e with e | e
    · subst e; exact own_ne h hw.blk (by decide) hj
    · exact hd j hj e.symm
  · rcases t.row with r | ⟨b, r, hb⟩
    · exact hd j hj (r ▸ e)
    · rw [r] at e
      injection e with e
      have := own_lt h hj
      omega

theorem pl_ext (L : List Bool) (num bits : Int) : ∃ T, pl L num bits = L ++ T := by
  unfold pl
  split
  · exact ⟨_, rfl⟩
  · exact ⟨[], by simp⟩

theorem pad_ext (L T : List Bool) (i : Nat) (h : i < L.length / 8) : (pad (L ++ T)).getD i 0 = (pad L).getD i 0 := by
  rw [pad_get _ _ (by rw [List.length_append]; omega), pad_get _ _ (by omega), byteAt_append _ _ _ (by omega)]

set_option maxHeartbeats 8000000 in
theorem bitsOwn_walk (w : World) (a0 : Option Addr) (len0 cap0 : Nat) (cl : Nat → Int × Int × Bool) (hr : ReadsCalls w a0 len0 cl) (a1 : Option Addr) (len1 cap1 : Nat) (cl1 : Nat → Int × Int × Bool) (hr1 : ReadsCalls w a1 len1 cl1) :
    Calls Try.prog 7 #[.slice a0 len0 cap0, .slice a1 len1 cap1] w fun e w' => e = .returned (.bool true) ∧ Below w.heap.size w w' := by
  have HR := Lib.hid hr; clear hr
  have HR1 := Lib.hid hr1; clear hr1
  have hsm0 := HR.out.small
  have hsm1 := HR1.out.small
  go_enter Try.func7, Try.ntmps7
  go_wp2_with (go_at_call 9; refine (awake_any w).mono ?_; rintro e w1 ⟨rfl, hb⟩; have HB := Lib.hid hb; clear hb)
  have hg1 : w.heap.size ≤ w1.heap.size := HB.out.size
  have hnew := Lib.hid (isW_new w1)
  have hbnew := Lib.hid (HB.out.alloc hg1 (.cells #[.slice none 0 0, .int .u64 0, .int .i64 0] 28))
  generalize w1.heap.size = gw at *
  go_loopw [7] (fun i wr => ∃ (k : Nat) (v : Value) (L : List Bool), k ≤ len0 ∧ k ≤ 50 ∧ i = .int .i64 k ∧ L.length ≤ 32 * k ∧ IsW wr gw v L ∧ From w.heap.size v ∧ Below w.heap.size w wr) (fun i _ => len0 - (intOf i).toNat)
  case atStart => exact ⟨0, _, [], Nat.zero_le _, Nat.zero_le _, rfl, Nat.le_refl _, hnew.out, From.none _ _ _, hbnew.out⟩
  case round =>
    obtain ⟨k, v, L, hk, hk2, rfl, hL, hW, hv, hbel⟩ := hrel
    have HW := Lib.hid hW; clear hW
    have HBel := Lib.hid hbel; clear hbel
    have HV := Lib.hid hv; clear hv
    by_cases hgo : k < len0 ∧ (k : Int) < 50
    · obtain ⟨hkl, hk100⟩ := hgo
      obtain ⟨bb, o, rfl, c0, c1, c2⟩ := HR.out.at_ HBel.out hkl
      have n0 := HR.out.num k hkl
      generalize cl k = call at *
      obtain ⟨num, bits, wh⟩ := call
      simp only at c0 c1 c2 n0
      have hpl := pl_len L num bits
      have HP := Lib.hid (fun W h => put_any gw v L num bits W n0.1 h (by omega))
      go_wp2
      go_still_tail 11, (by kernel_rfl)
      change wpList _ _ _ _ _ wr.drew
      go_wp2_with (go_at_call 10; refine (HP.out _ (HW.out.same (Fr.refl _ _).drew)).mono ?_; rintro e w2 ⟨rfl, v2, h2, t2⟩; have TB := t2.below (B := w.heap.size) HBel.out.drew.size hg1 HV.out; have HB2 := Lib.hid (HBel.out.drew.trans TB.1); have H2 := Lib.hid h2; have HV2 := Lib.hid TB.2; clear h2 t2 TB)
      go_roundw
      case rel => exact ⟨k + 1, v2, _, by omega, by omega, by go_num, by omega, H2.out, HV2.out, HB2.out⟩
      case measure => simp [intOf]; omega
    · have hex : ¬ (k : Int) < len0 ∨ (k < len0 ∧ ¬ (k : Int) < 50) := by omega
      have hL2 : L.length ≤ 1600 := by omega
      clear hgo hL
      rcases hex with hex | ⟨hex, hex2⟩
      all_goals
        go_wp2_with fail
        refine (wbytes_any gw v L _ HW.out (by omega)).mono ?_
        rintro e w3 ⟨vb, rfl, h3, s3, f3⟩
        have W3 := Lib.hid (HW.out.same s3); have B3 := Lib.hid (HBel.out.trans (s3.belowSame HBel.out.size))
        have D3 := Lib.hid (show ∀ j, vb.ownBlock = some j → v.ownBlock ≠ some j from fun j hj e => by
          have h1 := f3 j hj
          have h2 := own_lt HW.out.own e
          omega)
        obtain ⟨A3, c3, rfl, r3⟩ := own_reads h3
        have q3 := conv_reads (c := c3) r3
        have O3 := Lib.hid h3
        clear s3 h3 f3 r3
        go_wp2_with fail
        refine (count_any gw v _ _ W3.out (by omega)).mono ?_
        rintro e w4 ⟨rfl, s4⟩
        have W4 := Lib.hid (W3.out.same s4); have B4 := Lib.hid (B3.out.trans (s4.belowSame B3.out.size)); have O4 := Lib.hid (s4.own O3.out (fun _ _ h => h))
        clear s4 q3
        go_wp2_with fail
        go_loopw [11] (fun i wr => ∃ (k : Nat) (v : Value) (T : List Bool), k ≤ len1 ∧ k ≤ 50 ∧ i = .int .i64 k ∧ T.length ≤ 32 * k ∧ IsW wr gw v (L ++ T) ∧ From w.heap.size v ∧ wr.ownsRow 0 5 1 (.slice A3 ((L.length + 7) / 8) c3) ((L.length + 7) / 8) ((pad L).map (Value.int .u8)) ∧ (∀ j, (Value.slice A3 ((L.length + 7) / 8) c3).ownBlock = some j → v.ownBlock ≠ some j) ∧ Below w.heap.size w wr) (fun i _ => len1 - (intOf i).toNat)
        case atStart => exact ⟨0, v, [], Nat.zero_le _, Nat.zero_le _, rfl, Nat.le_refl _, by rw [List.append_nil]; exact W4.out, HV.out, O4.out, D3.out, B4.out⟩
        case round =>
          obtain ⟨k, v, T, hk, hk2, rfl, hT, hW, hv, hO, hD, hbel⟩ := hrel
          have hlen : (L ++ T).length = L.length + T.length := List.length_append
          have HW := Lib.hid hW; clear hW
          have HBel := Lib.hid hbel; clear hbel
          have HV := Lib.hid hv; clear hv
          have HO := Lib.hid hO; clear hO
          have HD := Lib.hid hD; clear hD
          have HLen := Lib.hid hlen; clear hlen
          by_cases hgo : k < len1 ∧ (k : Int) < 50
          · obtain ⟨hkl, hk100⟩ := hgo
            obtain ⟨bb, o, rfl, c0, c1, c2⟩ := HR1.out.at_ HBel.out hkl
            have n0 := HR1.out.num k hkl
            generalize cl1 k = call at *
            obtain ⟨num, bits, wh⟩ := call
            simp only at c0 c1 c2 n0
            have HP := Lib.hid (fun W h => put_any gw v (L ++ T) num bits W n0.1 h (by rw [HLen.out]; omega))
            go_wp2
            go_still_tail 11, (by kernel_rfl)
            change wpList _ _ _ _ _ wr.drew
            go_wp2_with (go_at_call 10; refine (HP.out _ (HW.out.same (Fr.refl _ _).drew)).mono ?_; rintro e w2 ⟨rfl, v2, h2, t2⟩; have TB := t2.below (B := w.heap.size) HBel.out.drew.size hg1 HV.out; have HB2 := Lib.hid (HBel.out.drew.trans TB.1); have H2 := Lib.hid h2; have HV2 := Lib.hid TB.2; have BT := bytes_turn (w0 := wr.drew) HO.out (HW.out.same (Fr.refl _ _).drew) HD.out t2; have HO2 := Lib.hid BT.1; have HD2 := Lib.hid BT.2; clear h2 t2 TB BT)
            go_roundw
            case rel =>
              obtain ⟨T', hT'⟩ := pl_ext (L ++ T) num bits
              have hpl := pl_len (L ++ T) num bits
              rw [hT', List.length_append] at hpl
              have h2 := H2.out
              rw [hT', List.append_assoc] at h2
              exact ⟨k + 1, v2, T ++ T', by omega, by omega, by go_num, by rw [List.length_append]; omega, h2, HV2.out, HO2.out, HD2.out, HB2.out⟩
            case measure => simp [intOf]; omega
          · have hex : ¬ (k : Int) < len1 ∨ (k < len1 ∧ ¬ (k : Int) < 50) := by omega
            have hT2 : T.length ≤ 1600 := by omega
            clear hgo hT
            rcases hex with hex | ⟨hex, hex2⟩
            all_goals
              go_wp2_with fail
              refine (wbytes_any gw v (L ++ T) _ HW.out (by rw [HLen.out]; omega)).mono ?_
              rintro e w5 ⟨vc, rfl, h5, s5, f5⟩
              rw [HLen.out] at h5
              have B5 := Lib.hid (HBel.out.trans (s5.belowSame HBel.out.size)); have O5 := s5.own HO.out (fun _ _ h => h)
              obtain ⟨A5, c5, rfl, r5⟩ := own_reads h5
              obtain ⟨A3', c3', he, r3⟩ := own_reads O5
              injection he with he1 he2 he3
              subst he1; subst he3
              have q5 := conv_reads (c := c3) r3
              have R5 := Lib.hid r5; have R3 := Lib.hid r3
              clear s5 h5 f5 O5 r3 r5
              have hll : ¬ ((L.length + T.length + 7) / 8 : Nat) < ((L.length + 7) / 8 : Nat) := by omega
              go_wp2_with fail
              go_loopw [13] (fun i wr => ∃ (m : Nat), m ≤ L.length / 8 ∧ i = .int .i64 m ∧ Same w5 wr) (fun i _ => L.length / 8 - (intOf i).toNat)
              case atStart => exact ⟨0, Nat.zero_le _, rfl, Fr.refl _ _⟩
              case round =>
                obtain ⟨m, hm, rfl, hS⟩ := hrel
                have HS := Lib.hid hS; clear hS
                by_cases hml : m < L.length / 8
                · obtain ⟨b5, o5, e5, d5⟩ := R5.out.2.2 (by omega)
                  obtain ⟨b3, o3, e3, d3⟩ := R3.out.2.2 (by omega)
                  subst e5; subst e3
                  have g5 := HS.out.cell (d5 m (by omega)) (fun h => h)
                  have g3 := HS.out.cell (d3 m (by omega)) (fun h => h)
                  rw [pad_ext L T m hml] at g5
                  clear d5 d3
                  have hm5 : (m : Int) < ((L.length + T.length + 7) / 8 : Nat) := by omega
                  have hm3 : (m : Int) < ((L.length + 7) / 8 : Nat) := by omega
                  go_wp2
                  go_quiet (fail)
                  go_wp2
                  go_roundw
                  case rel => exact ⟨m + 1, by omega, by go_num, HS.out.trans' ((Fr.refl _ _).drewN _)⟩
                  case measure => simp [intOf]; omega
                · obtain rfl : m = L.length / 8 := by omega
                  go_wp2
                  go_ret
                  exact ⟨rfl, B5.out.trans (HS.out.belowSame B5.out.size)⟩
end Go.Proofs.Ytghahbododnafaa
