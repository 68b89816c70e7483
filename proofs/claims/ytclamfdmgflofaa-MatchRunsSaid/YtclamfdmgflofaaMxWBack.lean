/- The walk of MatchBack. -/
import Derived.Test.YtclamfdmgflofaaMxWSplit
namespace Go.Proofs.Ytclamfdmgflofaa
open Go.RowKit
open Mx

theorem ReadsT.below {w w' : World} {A : Option Addr} {m : Nat} {ts : List Tok} (h : ReadsT w A m ts) (b : Below w.heap.size w w') : ReadsT w' A m ts := h.same b
set_option maxRecDepth 20000 in
set_option maxHeartbeats 4000000 in
theorem matchBack_walk (w : World) (a0 : Option Addr) (cap0 : Nat) (zs : List Int) (h : BytesIn w a0 cap0 zs) (a1 : Option Addr) (cap1 : Nat) (ys : List Int) (hy : BytesIn w a1 cap1 ys) :
    Calls Try.prog 6 #[.slice a0 zs.length cap0, .slice a1 ys.length cap1] w fun e w' => e = .returned (.bool true) ∧ Below w.heap.size w w' := by
  have HI := Lib.hid h; have HY := Lib.hid hy; clear h hy
  by_cases h2 : (2000 : Int) < zs.length
  · go_enter Try.func6, Try.ntmps6
    go_wp2_with (go_at_call 10; refine (awake_any w).mono ?_; rintro e w1 ⟨rfl, hb⟩; have HB := Lib.hid hb; clear hb)
    go_ret
    exact ⟨rfl, HB.out⟩
  by_cases h3 : (300 : Int) < ys.length
  · go_enter Try.func6, Try.ntmps6
    go_wp2_with (go_at_call 10; refine (awake_any w).mono ?_; rintro e w1 ⟨rfl, hb⟩; have HB := Lib.hid hb; clear hb)
    go_ret
    exact ⟨rfl, HB.out⟩
  obtain ⟨n, hn⟩ : ∃ n, zs.length = n := ⟨_, rfl⟩
  obtain ⟨m, hm⟩ : ∃ m, ys.length = m := ⟨_, rfl⟩
  have HR := HI.out.reads
  have HC := HI.out.cap
  have HRY := HY.out.reads
  have hfl := find_len zs
  have hbk := fun (a : List Int) => expand_find a zs n (by omega) (by omega)
  have hck := fun t => find_ck zs (by omega) t
  rw [hn] at HR HC h2 hfl
  rw [hm] at HRY h3
  have HLS : Hid (0 < n → expand [] (find zs) ((n : Int) - 1) = ([], 151)) := (fun h => by rw [← hn]; exact expand_less zs (by omega) (by omega) : 0 < n → expand [] (find zs) ((n : Int) - 1) = ([], 151))
  rw [hn, hm]
  have HF := Lib.hid (fun w' (b : Below w.heap.size w w') => find_any a0 cap0 zs n w' hn (HR.same b) HI.out.wf (by omega) HC)
  obtain ⟨T, hT⟩ : ∃ T, find zs = T := ⟨_, rfl⟩
  rw [hT] at HF HLS hbk hck hfl
  have HFL := Lib.hid hfl; have HBK := Lib.hid hbk; have HCK := Lib.hid hck
  have HRZ := Lib.hid HR; have HRYH := Lib.hid HRY
  have HM := Lib.hid hm; have HN := Lib.hid hn
  have hd1 : decide ((2000 : Int) < (n : Int)) = false := decide_eq_false h2
  have hd2 : decide ((300 : Int) < (m : Int)) = false := decide_eq_false h3
  have hd3 : decide (2000 < n) = false := decide_eq_false (by omega)
  have hd4 : decide (300 < m) = false := decide_eq_false (by omega)
  have H2 := Lib.hid (show n ≤ 2000 by omega)
  have H3 := Lib.hid (show m ≤ 300 by omega)
  have hnI : (n : Int) ≤ 2000 := by omega
  have hTI : (T.length : Int) ≤ n := by omega
  have hd5 : decide ((n : Int) < (T.length : Int)) = false := decide_eq_false (by omega)
  have hd6 : decide (n < T.length) = false := decide_eq_false (by omega)
  clear hT HR HRY HC hfl hbk hck hm hn h2 h3
  go_enter Try.func6, Try.ntmps6
  go_wp2_with (go_at_call 10; refine (awake_any w).mono ?_; rintro e w1 ⟨rfl, hb⟩; have HB := Lib.hid hb; clear hb)
  refine (HF.out w1 HB.out).mono ?_
  rintro e w2 ⟨v, rfl, h1, h2⟩
  obtain ⟨A2, c2, rfl, hc, hT⟩ := own_readsT h1 rfl
  have HB2 := Lib.hid (HB.out.trans (h2.mono HB.out.size)); have HT := Lib.hid hT
  have hcI : (T.length : Int) ≤ (c2 : Int) := by omega
  clear h1 h2 hc hT
  have HE1 := expand_all none 0 [] 0 A2 c2 T T.length n w2 rfl (Reads.nil _ _ _) HT.out (by decide) (by have := HFL.out; have := H2.out; omega) (by omega)
  rw [HBK.out []] at HE1
  have HE1 := Lib.hid HE1
  go_wp2_with fail
  refine HE1.out.mono ?_
  rintro e w3 ⟨A3, c3, U3, rfl, hr3, hb⟩
  have HB3 := Lib.hid (HB2.out.trans (hb.mono HB2.out.size)); have R3 := Lib.hid hr3; have HT3 := Lib.hid (HT.out.same hb)
  clear hr3 hb
  have HE2 := expand_all a1 cap1 ys m A2 c2 T T.length n w3 HM.out (HRYH.out.same HB3.out) HT3.out (by have := H3.out; omega) (by have := HFL.out; have := H2.out; omega) (by omega)
  rw [HBK.out ys] at HE2
  have HE2 := Lib.hid HE2
  go_wp2_with fail
  refine HE2.out.mono ?_
  rintro e w4 ⟨A4, c4, U4, rfl, hr4, hb⟩
  have HB4 := Lib.hid (HB3.out.trans (hb.mono HB3.out.size)); have HT4 := Lib.hid (HT3.out.same hb)
  have q3 := conv_reads (c := c3) (R3.out.same hb)
  have q4 := conv_reads (c := c4) hr4
  have q0 := conv_reads (c := cap0) (HRZ.out.same HB4.out)
  clear hr4 hb
  by_cases h0 : 0 < n
  · have h0I : (0 : Int) < n := by omega
    have HE3 := Lib.hid (HLS.out h0 ▸ expand_all none 0 [] 0 A2 c2 T T.length ((n : Int) - 1) w4 rfl (Reads.nil _ _ _) HT4.out (by decide) (by have := HFL.out; have := H2.out; omega) (by omega))
    clear h0
    go_wp2_with fail
    refine HE3.out.mono ?_
    rintro e w5 ⟨A5, c5, U5, rfl, hr5, hb⟩
    have HBW := Lib.hid (HB4.out.trans (hb.mono HB4.out.size)); have HTW := Lib.hid (HT4.out.same hb)
    obtain rfl : 0 = U5 := hr5.1
    clear hr5 hb q3 q4 q0
    go_wp2
    go_loopw [13] (fun v13 wr => ∃ j : Nat, v13 = .int .i64 j ∧ Hid (j ≤ T.length) ∧ Hid (Below w5.heap.size w5 wr)) (fun v13 _ => T.length - (intOf v13).toNat)
    case atStart => exact ⟨0, rfl, Nat.zero_le _, Below.refl _ _⟩
    case round =>
      obtain ⟨j, rfl, HJ, HB6⟩ := hrel
      by_cases hj : (j : Int) < (T.length : Int)
      · obtain ⟨b, o, rfl, hc⟩ := (HTW.out.below HB6.out).2 (by omega)
        obtain ⟨d0, d1, d2⟩ := hc j (by omega)
        have hck : ck (T.getD j (0, 0, 0)) = 0 := HCK.out _ (by
          rw [List.getD_eq_getElem?_getD, List.getElem?_eq_getElem (show j < T.length by omega)]
          exact List.getElem_mem _)
        clear hc
        generalize T.getD j (0, 0, 0) = t at *
        obtain ⟨x, y, z⟩ := t
        simp only at d0 d1 d2
        have HCC := fun w => check_any x y z w
        rw [hck] at HCC
        have HCC := Lib.hid HCC
        clear hck
        go_wp2_with (go_at_call 16; refine (HCC.out _).mono ?_; rintro e w7 ⟨rfl, hb⟩; have HB7 := Lib.hid (HB6.out.trans (hb.mono HB6.out.size)); clear hb)
        go_roundw
        case rel => exact ⟨j + 1, by go_num, (by omega : j + 1 ≤ T.length), HB7.out⟩
        case measure => simp [intOf]; omega
      · go_wp2
        go_ret
        exact ⟨rfl, HBW.out.trans (HB6.out.mono HBW.out.size)⟩
  · have h0I : decide ((0 : Int) < (n : Int)) = false := decide_eq_false (by omega)
    have h0N : decide (0 < n) = false := decide_eq_false h0
    clear h0
    have HBW := HB4; have HTW := HT4
    go_wp2
    go_loopw [13] (fun v13 wr => ∃ j : Nat, v13 = .int .i64 j ∧ Hid (j ≤ T.length) ∧ Hid (Below w4.heap.size w4 wr)) (fun v13 _ => T.length - (intOf v13).toNat)
    case atStart => exact ⟨0, rfl, Nat.zero_le _, Below.refl _ _⟩
    case round =>
      obtain ⟨j, rfl, HJ, HB6⟩ := hrel
      by_cases hj : (j : Int) < (T.length : Int)
      · obtain ⟨b, o, rfl, hc⟩ := (HTW.out.below HB6.out).2 (by omega)
        obtain ⟨d0, d1, d2⟩ := hc j (by omega)
        have hck : ck (T.getD j (0, 0, 0)) = 0 := HCK.out _ (by
          rw [List.getD_eq_getElem?_getD, List.getElem?_eq_getElem (show j < T.length by omega)]
          exact List.getElem_mem _)
        clear hc
        generalize T.getD j (0, 0, 0) = t at *
        obtain ⟨x, y, z⟩ := t
        simp only at d0 d1 d2
        have HCC := fun w => check_any x y z w
        rw [hck] at HCC
        have HCC := Lib.hid HCC
        clear hck
        go_wp2_with (go_at_call 16; refine (HCC.out _).mono ?_; rintro e w7 ⟨rfl, hb⟩; have HB7 := Lib.hid (HB6.out.trans (hb.mono HB6.out.size)); clear hb)
        go_roundw
        case rel => exact ⟨j + 1, by go_num, (by omega : j + 1 ≤ T.length), HB7.out⟩
        case measure => simp [intOf]; omega
      · go_wp2
        go_ret
        exact ⟨rfl, HBW.out.trans (HB6.out.mono HBW.out.size)⟩
end Go.Proofs.Ytclamfdmgflofaa
