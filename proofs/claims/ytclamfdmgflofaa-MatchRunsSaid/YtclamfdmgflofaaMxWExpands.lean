/- The walk of MatchExpands. -/
import Derived.Test.YtclamfdmgflofaaMxOpen
import Derived.Test.YtclamfdmgflofaaMxLaw
namespace Go.Proofs.Ytclamfdmgflofaa
open Go.RowKit
open Mx

theorem expand_all (A : Option Addr) (c : Nat) (zs : List Int) (n : Nat) (L : Option Addr) (cl : Nat) (ts : List Tok) (m : Nat) (most : Int) (w : World) (hn : zs.length = n) (hr : Reads w .u8 A n zs) (ht : ReadsT w L m ts) (hnl : n ≤ 20000) (hml : m ≤ 20000) (h1 : most ≤ 1000000) :
    Calls Try.prog 14 #[.slice A n c, .slice L m cl, .int .i64 most] w fun e w' => ∃ A' c' U, e = .returned (.tuple #[.slice A' U c', .int .i64 (expand zs ts most).2]) ∧ Reads w' .u8 A' U (expand zs ts most).1 ∧ Below w.heap.size w w' := by
  by_cases h0 : 0 ≤ most
  · exact expand_any A c zs n L cl ts m most w hn hr ht hnl hml h0 h1
  · refine (expand_neg A n c L m cl most (by omega) w).mono ?_
    rintro e w' ⟨rfl, rfl⟩
    have : expand zs ts most = ([], 1) := by unfold expand; rw [if_pos (by omega)]
    rw [this]
    exact ⟨none, 0, 0, rfl, Reads.nil _ _ _, Below.refl _ _⟩
theorem rexpand_all (A : Option Addr) (c : Nat) (zs : List Int) (n : Nat) (L : Option Addr) (cl : Nat) (ts : List Tok) (m : Nat) (most : Int) (w : World) (hn : zs.length = n) (hr : Reads w .u8 A n zs) (ht : ReadsT w L m ts) (hnl : n ≤ 20000) (hml : m ≤ 20000) (h1 : most ≤ 1000000) :
    Calls Try.prog 15 #[.slice A n c, .slice L m cl, .int .i64 most] w fun e w' => ∃ A' c' U, e = .returned (.tuple #[.slice A' U c', .int .i64 (expand zs ts most).2]) ∧ Reads w' .u8 A' U (expand zs ts most).1 ∧ Below w.heap.size w w' := by
  by_cases h0 : 0 ≤ most
  · exact rexpand_any A c zs n L cl ts m most w hn hr ht hnl hml h0 h1
  · refine (rexpand_neg A n c L m cl most (by omega) w).mono ?_
    rintro e w' ⟨rfl, rfl⟩
    have : expand zs ts most = ([], 1) := by unfold expand; rw [if_pos (by omega)]
    rw [this]
    exact ⟨none, 0, 0, rfl, Reads.nil _ _ _, Below.refl _ _⟩

set_option maxRecDepth 20000 in
set_option maxHeartbeats 4000000 in
theorem matchExpands_walk (w : World) (a0 : Option Addr) (cap0 : Nat) (zs : List Int) (h : BytesIn w a0 cap0 zs) (a1 : Option Addr) (len1 cap1 : Nat) (ts : List Tok) (ht : ToksIn w a1 len1 cap1 ts) (k : Int) (hk : -9223372036854775808 ≤ k ∧ k ≤ 9223372036854775807) :
    Calls Try.prog 5 #[.slice a0 zs.length cap0, .slice a1 len1 cap1, .int .i64 k] w fun e w' => e = .returned (.bool true) ∧ Below w.heap.size w w' := by
  have HI := Lib.hid h; have HT := Lib.hid ht; have HK := Lib.hid hk; clear h ht hk
  by_cases h3 : (300 : Int) < zs.length
  · go_enter Try.func5, Try.ntmps5
    go_wp2_with (go_at_call 10; refine (awake_any w).mono ?_; rintro e w1 ⟨rfl, hb⟩; have HB := Lib.hid hb; clear hb)
    go_ret
    exact ⟨rfl, HB.out⟩
  by_cases h6 : (60 : Int) < len1
  · go_enter Try.func5, Try.ntmps5
    go_wp2_with (go_at_call 10; refine (awake_any w).mono ?_; rintro e w1 ⟨rfl, hb⟩; have HB := Lib.hid hb; clear hb)
    go_ret
    exact ⟨rfl, HB.out⟩
  obtain ⟨n, hn⟩ : ∃ n, zs.length = n := ⟨_, rfl⟩
  have HR := HI.out.reads
  rw [hn] at HR h3 ⊢
  have H3 := Lib.hid (show n ≤ 300 by omega)
  have H6 := Lib.hid (show len1 ≤ 60 by omega)
  have HE := Lib.hid (fun q (hq : q ≤ 1000000) w' (b : Below w.heap.size w w') => expand_all a0 cap0 zs n a1 cap1 ts len1 q w' hn (HR.same b) (HT.out.reads.same b) (by have := H3.out; omega) (by have := H6.out; omega) hq)
  have HG := Lib.hid (fun q (hq : q ≤ 1000000) w' (b : Below w.heap.size w w') => rexpand_all a0 cap0 zs n a1 cap1 ts len1 q w' hn (HR.same b) (HT.out.reads.same b) (by have := H3.out; omega) (by have := H6.out; omega) hq)
  have hd1 : decide ((300 : Int) < (n : Int)) = false := decide_eq_false h3
  have hd2 : decide ((60 : Int) < (len1 : Int)) = false := decide_eq_false h6
  have hd3 : decide (300 < n) = false := decide_eq_false (by omega)
  have hd4 : decide (60 < len1) = false := decide_eq_false (by omega)
  have hq : k.tmod 20000 ≤ 1000000 := by
    have := Int.tmod_lt_of_pos k (show (0 : Int) < 20000 by decide)
    omega
  have HQ := Lib.hid hq
  clear HR hn h3 h6 hq
  go_enter Try.func5, Try.ntmps5
  go_wp2_with (go_at_call 10; refine (awake_any w).mono ?_; rintro e w1 ⟨rfl, hb⟩; have HB := Lib.hid hb; clear hb)
  refine (HE.out _ HQ.out w1 HB.out).mono ?_
  rintro e w2 ⟨A2, c2, U2, rfl, hr2, hb⟩
  have HB2 := Lib.hid (HB.out.trans (hb.mono HB.out.size)); have R2 := Lib.hid hr2
  clear hr2 hb
  go_wp2_with fail
  refine (HG.out _ HQ.out w2 HB2.out).mono ?_
  rintro e w3 ⟨A3, c3, U3, rfl, hr3, hb⟩
  have HB3 := Lib.hid (HB2.out.trans (hb.mono HB2.out.size)); have R3 := Lib.hid hr3; have R2' := Lib.hid (R2.out.same hb)
  clear hr3 hb R2
  generalize expand zs ts (k.tmod 20000) = r at *
  obtain ⟨bs, er⟩ := r
  simp only at R3 R2'
  have hle : (len1 : Int) ≤ 60 := by have := H6.out; omega
  go_wp2
  go_loopw [12] (fun v12 wr => ∃ j : Nat, v12 = .int .i64 j ∧ Hid (j ≤ len1) ∧ Hid (Below w3.heap.size w3 wr)) (fun v12 _ => len1 - (intOf v12).toNat)
  case atStart => exact ⟨0, rfl, Nat.zero_le _, Below.refl _ _⟩
  case round =>
    obtain ⟨j, rfl, HJ, HB5⟩ := hrel
    by_cases hj : (j : Int) < len1
    · obtain ⟨b, o, rfl, hc⟩ := HT.out.reads.2 (by omega)
      obtain ⟨c0, c1, c2⟩ := hc j (by omega)
      have lt := World.block_lt_of_cell? w _ c0
      have HBW := Lib.hid (HB3.out.trans (HB5.out.mono HB3.out.size))
      have d0 := (HBW.out.cell (p := ⟨b, o + j * 3, none⟩) lt).trans c0
      have d1 := (HBW.out.cell (p := ⟨b, o + j * 3 + 1, none⟩) lt).trans c1
      have d2 := (HBW.out.cell (p := ⟨b, o + j * 3 + 2, none⟩) lt).trans c2
      have LT := Lib.hid lt
      clear hc c0 c1 c2 lt
      generalize ts.getD j (0, 0, 0) = t at *
      obtain ⟨x, y, z⟩ := t
      simp only at d0 d1 d2
      have HCK := Lib.hid (fun w => check_any x y z w)
      have HRK := Lib.hid (fun w => rcheck_any x y z w)
      generalize ck (x, y, z) = ckv at *
      have ltr : b < wr.heap.size := Nat.lt_of_lt_of_le LT.out HBW.out.size
      go_wp2
      go_region_with (first
        | (go_at_call 16; refine (HCK.out _).mono ?_; rintro e w6 ⟨rfl, hb⟩; have e0 := (hb.cell (p := ⟨b, o + j * 3, none⟩) ltr).trans d0; have e1 := (hb.cell (p := ⟨b, o + j * 3 + 1, none⟩) ltr).trans d1; have e2 := (hb.cell (p := ⟨b, o + j * 3 + 2, none⟩) ltr).trans d2; have HB6 := Lib.hid (HB5.out.drew.trans (hb.mono HB5.out.size)); clear hb)
        | (go_at_call 17; refine (HRK.out _).mono ?_; rintro e w7 ⟨rfl, hb⟩; have HB7 := Lib.hid (HB6.out.trans (hb.mono HB6.out.size)); clear hb))
      all_goals
        go_wp2
        go_roundw
        case rel => exact ⟨j + 1, by go_num, (by omega : j + 1 ≤ len1), HB7.out⟩
        case measure => simp [intOf]; omega
    · have HBW := Lib.hid (HB3.out.trans (HB5.out.mono HB3.out.size))
      have q3 := conv_reads (c := c3) (R3.out.below HB5.out (fun hn g hg => R3.out.lt hn hg))
      have q2 := conv_reads (c := c2) (R2'.out.below HB5.out (fun hn g hg => R2'.out.lt hn hg))
      clear R3 R2'
      go_wp2
      go_ret
      exact ⟨rfl, HBW.out⟩
end Go.Proofs.Ytclamfdmgflofaa
