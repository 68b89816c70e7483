/- The walk of BitsTakes. -/
import Derived.Test.YtghahbododnafaaPutAny
import Derived.StillTailTactics
namespace Go.Proofs.Ytghahbododnafaa
open Go.RowKit
open Bt

theorem take_both (xs : List Int) (hx : ∀ x ∈ xs, 0 ≤ x ∧ x ≤ 255) (p : Nat) (bits : Int) (hL : xs.length ≤ 1000) (hp : p ≤ 8 * xs.length) : ∃ (n e : Int) (p' : Nat), p' ≤ 8 * xs.length ∧
    (∀ g A c W, IsR W g A c xs p → Calls Try.prog 19 #[.pointer (some ⟨g, 0, none⟩), .int .i64 bits] W fun e' w' => e' = .returned (.tuple #[.int .u64 n, .int .i64 e]) ∧ IsR w' g A c xs p' ∧ Fr (fun j => j = g) W w') ∧
    (∀ g v W, IsB W g v (unbits xs) p → Calls Try.prog 20 #[.pointer (some ⟨g, 0, none⟩), .int .i64 bits] W fun e' w' => e' = .returned (.tuple #[.int .u64 n, .int .i64 e]) ∧ IsB w' g v (unbits xs) p' ∧ Fr (fun j => j = g) W w') := by
  have hlen := length_unbits xs
  by_cases h1 : bits < 0 ∨ 32 < bits
  · refine ⟨0, 1, p, hp, fun g A c W h => (take_arg g bits W h1).mono ?_, fun g v W h => (rtake_arg g bits W h1).mono ?_⟩
    · rintro e w' ⟨he, hs⟩
      exact ⟨he, h.same hs, hs.mono (fun _ _ h => h.elim)⟩
    · rintro e w' ⟨he, hs⟩
      exact ⟨he, h.same hs, hs.mono (fun _ _ h => h.elim)⟩
  · by_cases h2 : 8 * (xs.length : Int) - p < bits
    · refine ⟨0, 120, p, hp, fun g A c W h => (take_short g A c xs p bits W h (by omega) hp (by omega) (by omega) h2).mono ?_, fun g v W h => (rtake_short g v (unbits xs) p bits W h (by omega) (by omega) (by omega) (by omega) (by omega)).mono ?_⟩
      · rintro e w' ⟨he, hs⟩
        exact ⟨he, h.same hs, hs.mono (fun _ _ h => h.elim)⟩
      · rintro e w' ⟨he, hs⟩
        exact ⟨he, h.same hs, hs.mono (fun _ _ h => h.elim)⟩
    · exact ⟨_, 0, p + bits.toNat, by omega, fun g A c W h => take_good g A c xs p bits W h hx (by omega) hp (by omega) (by omega) h2, fun g v W h => rtake_good g v (unbits xs) p bits W h (by omega) (by omega) (by omega) (by omega) (by omega)⟩

theorem whole_both (xs : List Int) (hx : ∀ x ∈ xs, 0 ≤ x ∧ x ≤ 255) (p : Nat) (hL : xs.length ≤ 1000) (hp : p ≤ 8 * xs.length) : ∃ (z : Bool) (p' : Nat), p' ≤ 8 * xs.length ∧
    (∀ g A c W, IsR W g A c xs p → Calls Try.prog 17 #[.pointer (some ⟨g, 0, none⟩)] W fun e' w' => e' = .returned (.bool z) ∧ IsR w' g A c xs p' ∧ Fr (fun j => j = g) W w') ∧
    (∀ g v W, IsB W g v (unbits xs) p → Calls Try.prog 18 #[.pointer (some ⟨g, 0, none⟩)] W fun e' w' => e' = .returned (.bool z) ∧ IsB w' g v (unbits xs) p' ∧ Fr (fun j => j = g) W w') := by
  have hlen := length_unbits xs
  exact ⟨_, up p, by unfold up; omega, fun g A c W h => whole_any g A c xs p W h hx (by omega) hp, fun g v W h => rwhole_any g v (unbits xs) p W h (by omega) (by omega) (by omega)⟩

theorem left_both (xs : List Int) (p : Nat) (hL : xs.length ≤ 1000) (hp : p ≤ 8 * xs.length) : ∃ (n : Int),
    (∀ g A c W, IsR W g A c xs p → Calls Try.prog 21 #[.pointer (some ⟨g, 0, none⟩)] W fun e' w' => e' = .returned (.int .i64 n) ∧ Same W w') ∧
    (∀ g v W, IsB W g v (unbits xs) p → Calls Try.prog 22 #[.pointer (some ⟨g, 0, none⟩)] W fun e' w' => e' = .returned (.int .i64 n) ∧ Same W w') := by
  have hlen := length_unbits xs
  refine ⟨8 * (xs.length : Int) - p, fun g A c W h => left_any g A c xs p W h (by omega) hp, fun g v W h => ?_⟩
  have := rleft_any g v (unbits xs) p W h (by omega) (by omega)
  rw [show ((unbits xs).length : Int) = 8 * (xs.length : Int) from by omega] at this
  exact this

set_option maxHeartbeats 4000000 in
theorem bitsTakes_walk (w : World) (a0 : Option Addr) (cap0 : Nat) (xs : List Int) (hrd : Reads w .u8 a0 xs.length xs) (hx : ∀ x ∈ xs, 0 ≤ x ∧ x ≤ 255) (a1 : Option Addr) (len1 cap1 : Nat) (cl : Nat → Int × Int × Bool) (hr : ReadsCalls w a1 len1 cl) :
    Calls Try.prog 5 #[.slice a0 xs.length cap0, .slice a1 len1 cap1] w fun e w' => e = .returned (.bool true) ∧ Below w.heap.size w w' := by
  have HR := Lib.hid hr; clear hr
  have HD := Lib.hid hrd
  have hxl := hrd.2.1
  clear hrd
  have HX := Lib.hid hx; clear hx
  by_cases hlen : (300 : Int) < xs.length
  · go_enter Try.func5, Try.ntmps5
    go_wp2_with (go_at_call 9; refine (awake_any w).mono ?_; rintro e w1 ⟨rfl, hb⟩; have HB := Lib.hid hb; clear hb)
    go_ret
    exact ⟨rfl, HB.out⟩
  · go_enter Try.func5, Try.ntmps5
    go_wp2_with fail
    refine (awake_any w).mono ?_
    rintro e w1 ⟨rfl, hb⟩
    have HB := Lib.hid hb
    have D1 := Lib.hid (HD.out.fr (w' := w1) (S := fun j => w.heap.size ≤ j) ⟨hb.os, hb.tape, hb.output, hb.size, fun k _ hn => hb.block k (by omega)⟩ (fun hn b hb' => by have := HD.out.lt hn hb'; omega))
    have hg1 : w.heap.size ≤ w1.heap.size := hb.size
    clear hb
    go_wp2_with fail
    refine (new_any a0 cap0 xs w1 D1.out).mono ?_
    rintro e w2 ⟨rfl, h2, s2⟩
    have H2 := Lib.hid h2
    have B2 := Lib.hid (HB.out.trans (s2.belowSame hg1))
    have D2 := Lib.hid (D1.out.fr s2 (fun _ _ _ h => h))
    have hgr : w1.heap.size < w2.heap.size := blk_lt h2.blk
    clear h2 s2
    go_wp2_with fail
    refine (rnew_any a0 cap0 xs w2 D2.out HX.out (by omega)).mono ?_
    rintro e w3 ⟨vb, rfl, h3, s3, f3⟩
    have H3 := Lib.hid (H2.out.same s3)
    have B3 := Lib.hid (B2.out.trans (s3.belowSame (Nat.le_trans hg1 (Nat.le_of_lt hgr))))
    have HBB := Lib.hid h3
    clear h3 s3 f3
    have hA := Lib.hid (show 0 < xs.length → ∀ b, a0.map (·.block) = some b → b < w.heap.size from fun hn b hb => HD.out.lt hn hb)
    generalize w1.heap.size = gr at *
    generalize w2.heap.size = gb at *
    go_wp2_with fail
    go_loopw [8] (fun i wr => ∃ (k p : Nat), k ≤ len1 ∧ k ≤ 100 ∧ i = .int .i64 k ∧ p ≤ 8 * xs.length ∧ IsR wr gr a0 cap0 xs p ∧ IsB wr gb vb (unbits xs) p ∧ Below w.heap.size w wr) (fun i _ => len1 - (intOf i).toNat)
    case atStart => exact ⟨0, 0, Nat.zero_le _, Nat.zero_le _, rfl, Nat.zero_le _, H3.out, HBB.out, B3.out⟩
    case round =>
      obtain ⟨k, p, hk, hk2, rfl, hp, hR, hB, hbel⟩ := hrel
      by_cases hkl : k < len1
      · by_cases hk100 : (k : Int) < 100
        · obtain ⟨bb, o, rfl, c0, c1, c2⟩ := HR.out.at_ hbel hkl
          have hbb : bb < w.heap.size := by
            obtain ⟨b', o', e', c0', _⟩ := HR.out.at_ (Below.refl _ _) hkl
            injection e' with e'; injection e' with e1 e2; subst e1
            exact World.block_lt_of_cell? _ _ c0'
          generalize cl k = call at *
          obtain ⟨num, bits, wh⟩ := call
          simp only at c0 c1 c2
          have step : ∀ W, IsR W gr a0 cap0 xs p → ∀ W', Fr (fun j => j = gb) W W' → IsR W' gr a0 cap0 xs p := fun W h W' f => h.fr f (by omega) (fun hn b hb e => by have := hA.out hn b hb; omega)
          have HRR := Lib.hid hR; clear hR
          have HB' := Lib.hid hB; clear hB
          have HBel := Lib.hid hbel; clear hbel
          cases wh with
          | true =>
            obtain ⟨z, p', hp', hw1, hw2⟩ := whole_both xs HX.out p (by omega) hp
            obtain ⟨n, hl1, hl2⟩ := left_both xs p' (by omega) hp'
            have W1 := Lib.hid hw1; have W2 := Lib.hid hw2; have L1 := Lib.hid hl1; have L2 := Lib.hid hl2
            clear hw1 hw2 hl1 hl2
            go_wp2_with fail
            refine (W1.out gr _ _ _ HRR.out).mono ?_
            rintro e w4 ⟨rfl, h4, f4⟩
            have R4 := Lib.hid h4; have B4 := Lib.hid (HB'.out.fr f4 (by omega) (fun j hj e => own_ne HB'.out.own HRR.out.blk (by decide) (by rw [← e]; exact hj))); have BL4 := Lib.hid (HBel.out.trans (f4.belowEq HBel.out.size (by omega)))
            clear h4 f4
            go_wp2_with fail
            refine (W2.out gb _ _ B4.out).mono ?_
            rintro e w5 ⟨rfl, h5, f5⟩
            have R5 := Lib.hid (R4.out.fr f5 (by omega) (fun hn b hb e => by have := hA.out hn b hb; omega)); have B5 := Lib.hid h5; have BL5 := Lib.hid (BL4.out.trans (f5.belowEq BL4.out.size (by omega)))
            clear h5 f5
            go_wp2_with fail
            refine (L1.out gr _ _ _ R5.out).mono ?_
            rintro e w6 ⟨rfl, s6⟩
            have R6 := Lib.hid (R5.out.same s6); have B6 := Lib.hid (B5.out.same s6); have BL6 := Lib.hid (BL5.out.trans (s6.belowSame BL5.out.size))
            clear s6
            go_wp2_with fail
            refine (L2.out gb _ _ B6.out).mono ?_
            rintro e w7 ⟨rfl, s7⟩
            have R7 := Lib.hid (R6.out.same s7); have B7 := Lib.hid (B6.out.same s7); have BL7 := Lib.hid (BL6.out.trans (s7.belowSame BL6.out.size))
            clear s7
            go_wp2_with fail
            go_roundw
            case rel => exact ⟨k + 1, p', by omega, by omega, by go_num, hp', R7.out, B7.out, BL7.out⟩
            case measure => simp [intOf]; omega
          | false =>
            obtain ⟨n, er, p', hp', hw1, hw2⟩ := take_both xs HX.out p bits (by omega) hp
            obtain ⟨m, hl1, hl2⟩ := left_both xs p' (by omega) hp'
            have W1 := Lib.hid hw1; have W2 := Lib.hid hw2; have L1 := Lib.hid hl1; have L2 := Lib.hid hl2
            clear hw1 hw2 hl1 hl2
            go_wp2_with fail
            refine (W1.out gr _ _ _ HRR.out).mono ?_
            rintro e w4 ⟨rfl, h4, f4⟩
            have R4 := Lib.hid h4; have B4 := Lib.hid (HB'.out.fr f4 (by omega) (fun j hj e => own_ne HB'.out.own HRR.out.blk (by decide) (by rw [← e]; exact hj))); have F4 := f4.belowEq (B := w.heap.size) HBel.out.size (by omega); have BL4 := Lib.hid (HBel.out.trans F4)
            have d1 := (F4.cell (p := ⟨bb, o + k * 3 + 1, none⟩) hbb).trans c1
            clear h4 f4 F4
            go_wp2_with fail
            refine (W2.out gb _ _ B4.out).mono ?_
            rintro e w5 ⟨rfl, h5, f5⟩
            have R5 := Lib.hid (R4.out.fr f5 (by omega) (fun hn b hb e => by have := hA.out hn b hb; omega)); have B5 := Lib.hid h5; have BL5 := Lib.hid (BL4.out.trans (f5.belowEq BL4.out.size (by omega)))
            clear h5 f5
            go_wp2_with fail
            refine (L1.out gr _ _ _ R5.out).mono ?_
            rintro e w6 ⟨rfl, s6⟩
            have R6 := Lib.hid (R5.out.same s6); have B6 := Lib.hid (B5.out.same s6); have BL6 := Lib.hid (BL5.out.trans (s6.belowSame BL5.out.size))
            clear s6
            go_wp2_with fail
            refine (L2.out gb _ _ B6.out).mono ?_
            rintro e w7 ⟨rfl, s7⟩
            have R7 := Lib.hid (R6.out.same s7); have B7 := Lib.hid (B6.out.same s7); have BL7 := Lib.hid (BL6.out.trans (s7.belowSame BL6.out.size))
            clear s7
            go_wp2_with fail
            go_roundw
            case rel => exact ⟨k + 1, p', by omega, by omega, by go_num, hp', R7.out, B7.out, BL7.out⟩
            case measure => simp [intOf]; omega
        · have hk100' : ¬ (k : Int) < 100 := hk100
          have HBel := Lib.hid hbel; clear hbel hR hB
          go_wp2
          go_ret
          exact ⟨rfl, HBel.out⟩
      · have hkl' : ¬ (k : Int) < len1 := by omega
        have HBel := Lib.hid hbel; clear hbel hR hB
        go_wp2
        go_ret
        exact ⟨rfl, HBel.out⟩
end Go.Proofs.Ytghahbododnafaa
