/- The walks of get and piece. -/
import Derived.Test.YtlgonkopojancaaDoorFxGueP
import Derived.Test.YtlgonkopojancaaDoorFxREncL
namespace Go.Proofs.YtlgonkopojancaaDoor
open Go.RowKit

theorem getP_some {xs : List Int} {t n k : Nat} (h : getR 10 0 0 (xs.drop t) = some (n, k)) : getP xs t = (n, t + k) := by unfold getP; rw [h]
theorem getP_none {xs : List Int} {t : Nat} (h : getR 10 0 0 (xs.drop t) = none) : getP xs t = (0, xs.length) := by unfold getP; rw [h]
def accN (a i : Nat) (y : Int) : Nat := (a + y.toNat % 128 * 2 ^ (7 * i) % 18446744073709551616) % 18446744073709551616
theorem acc_step {a i sh : Nat} {y : Int} (hy : 0 ≤ y) (hs : 7 * i = sh) : IntKind.u64.wrap ((a : Int) + IntKind.u64.wrap (y % 128 * 2 ^ sh)) = ((accN a i y : Nat) : Int) := by
  have e1 : y % 128 * 2 ^ sh = ((y.toNat % 128 * 2 ^ sh : Nat) : Int) := by
    rw [Int.natCast_mul, Int.natCast_pow, Int.natCast_emod, Int.toNat_of_nonneg hy]
    rfl
  unfold accN
  rw [e1, IntKind.wrap_u64, IntKind.wrap_u64, hs]
  generalize y.toNat % 128 * 2 ^ sh = q
  omega
theorem accN_lt (a i : Nat) (y : Int) : accN a i y < 18446744073709551616 := Nat.mod_lt _ (by decide)
theorem getR_lo {k i a : Nat} {y : Int} {ys : List Int} (h : y < 128) : getR (k + 1) i a (y :: ys) = some (accN a i y, i + 1) := by rw [getR, if_pos h]; rfl
theorem getR_hi {k i a : Nat} {y : Int} {ys : List Int} (h : ¬ y < 128) : getR (k + 1) i a (y :: ys) = getR k (i + 1) (accN a i y) ys := by rw [getR, if_neg h]; rfl
theorem getR_end {k i a : Nat} : getR k i a [] = none := by cases k <;> rfl
set_option maxRecDepth 20000 in
set_option maxHeartbeats 4000000 in
theorem get_any (A : Option Addr) (n c t : Nat) (xs : List Int) (w : World) (hr : Reads w .u8 A n xs) (hb : Bts xs) (hn : n ≤ 1000000) (ht : t ≤ n) :
    Calls Tryd.prog 55 #[.slice A n c, .int .i64 t] w fun e w' => e = .returned (.tuple #[.int .u64 (getP xs t).1, .int .i64 (getP xs t).2]) ∧ w' = w := by
  have HR := Lib.hid hr; have HB := Lib.hid hb
  have HL : Hid (xs.length = n) := hr.1
  have i1 : (n : Int) ≤ 1000000 := by omega
  have i2 : (t : Int) ≤ n := by omega
  clear hr hb hn ht
  go_enter Tryd.func55, Tryd.ntmps55
  go_wp2_with fail
  go_loopw [6, 7] (fun v6 v7 wr => ∃ i a : Nat, v6 = .int .u64 a ∧ v7 = .int .i64 i ∧ (i : Int) ≤ 10 ∧ (t : Int) + i ≤ n ∧ (a : Int) < 18446744073709551616 ∧ Hid (getR 10 0 0 (xs.drop t) = getR (10 - i) i a (xs.drop (t + i))) ∧ wr = w) (fun _ v7 _ => 10 - (intOf v7).toNat)
  case atStart => exact ⟨0, 0, rfl, rfl, by omega, by omega, by omega, rfl, rfl⟩
  case round =>
    obtain ⟨i, a, rfl, rfl, hi, hti, ha, HG, rfl⟩ := hrel
    by_cases h10 : (i : Int) < 10
    · by_cases hlt : (t : Int) + i < n
      · obtain ⟨b, o, hA, hc⟩ := HR.out.2.2 (by omega)
        have hcell := hc (t + i) (by omega)
        obtain ⟨y, hy⟩ : ∃ y, xs.getD (t + i) 0 = y := ⟨_, rfl⟩
        have hlen : t + i < xs.length := by have := HL.out; omega
        have hyx : xs[t + i]'hlen = y := by rw [← hy, List.getD_eq_getElem?_getD, List.getElem?_eq_getElem hlen]; rfl
        have hyb := HB.out y (by rw [← hyx]; exact List.getElem_mem _)
        have hd : xs.drop (t + i) = y :: xs.drop (t + i + 1) := by rw [List.drop_eq_getElem_cons hlen, hyx]
        rw [hy] at hcell
        subst hA
        have HD := Lib.hid hd
        clear hc hy hlen hyx hd
        have hy0 : 0 ≤ y := hyb.1
        have hy1 : y ≤ 255 := by have := hyb.2; omega
        clear hyb
        obtain ⟨sh, hsh⟩ : ∃ sh : Nat, 7 * i = sh := ⟨_, rfl⟩
        have h7 : 7 * (i : Int) = (sh : Int) := by omega
        have h63 : (sh : Int) ≤ 63 := by omega
        have HSH := Lib.hid hsh
        have HA := Lib.hid ha
        clear hsh ha
        go_upto_region 6 with fail
        obtain ⟨u, hu⟩ : ∃ u, accN a i y = u := ⟨_, rfl⟩
        have hw1 := acc_step (a := a) hy0 HSH.out
        rw [hu] at hw1
        rw [hw1]
        obtain ⟨v, hv⟩ : ∃ v, IntKind.u64.wrap (y % 128 * 2 ^ sh) = v := ⟨_, rfl⟩
        rw [hv]
        have HU := Lib.hid hu
        have HUL : Hid (u < 18446744073709551616) := (by rw [← hu]; exact accN_lt a i y : u < 18446744073709551616)
        clear hv hw1 hu h7 h63
        have e10 : 10 - i = (9 - i) + 1 := by omega
        have H10 := Lib.hid e10
        clear e10
        by_cases hy8 : y < 128
        · have HP : Hid (getP xs t = (u, t + (i + 1))) := (getP_some (by rw [HG.out, H10.out, HD.out, getR_lo hy8, HU.out]) : getP xs t = (u, t + (i + 1)))
          go_wp2_with fail
          go_ret2
          refine ⟨?_, rfl⟩
          rw [HP.out]
          show Ending.returned (.tuple #[.int .u64 (u : Int), .int .i64 ((t : Int) + i + 1)]) = Ending.returned (.tuple #[.int .u64 (u : Int), .int .i64 ((t + (i + 1) : Nat) : Int)])
          rw [show ((t + (i + 1) : Nat) : Int) = (t : Int) + i + 1 by omega]
        · have HN : Hid (getR 10 0 0 (xs.drop t) = getR (10 - (i + 1)) (i + 1) u (xs.drop (t + (i + 1)))) := (by
            rw [HG.out, H10.out, HD.out, getR_hi hy8, HU.out, show 10 - (i + 1) = 9 - i by omega, show t + (i + 1) = t + i + 1 by omega] : getR 10 0 0 (xs.drop t) = getR (10 - (i + 1)) (i + 1) u (xs.drop (t + (i + 1))))
          go_wp2_with fail
          go_roundw
          case rel => exact ⟨i + 1, u, rfl, by go_num, by omega, by omega, by have := HUL.out; omega, HN.out, trivial⟩
          case measure => simp [intOf]; omega
      · have HP : Hid (getP xs t = (0, n)) := (by
          have e : xs.drop (t + i) = [] := List.drop_of_length_le (by have := HL.out; omega)
          rw [getP_none (by rw [HG.out, e, getR_end]), HL.out] : getP xs t = (0, n))
        clear ha
        go_wp2_with fail
        go_ret2
        exact ⟨by rw [HP.out]; rfl, rfl⟩
    · have HP : Hid (getP xs t = (0, n)) := (by
        have e : 10 - i = 0 := by omega
        rw [getP_none (by rw [HG.out, e]; rfl), HL.out] : getP xs t = (0, n))
      clear ha
      go_wp2_with fail
      go_ret2
      exact ⟨by rw [HP.out]; rfl, rfl⟩
theorem reads_part {w : World} {A : Option Addr} {n c t k : Nat} {xs : List Int} (h : Reads w .u8 A n xs) (hc : n ≤ c) (hk : t + k ≤ n) : Reads w .u8 (if c = t then A else A.map (·.add t)) k ((xs.drop t).take k) := by
  refine ⟨by rw [List.length_take, List.length_drop, h.1]; omega, Nat.le_trans (by omega) h.2.1, fun hn => ?_⟩
  obtain ⟨b, o, rfl, hcs⟩ := h.2.2 (by omega)
  rw [if_neg (by omega)]
  refine ⟨b, o + t, ?_, fun j hj => ?_⟩
  · simp only [Option.map_some]
    congr 1
    unfold Addr.add
    simp
  · have e : ((xs.drop t).take k).getD j 0 = xs.getD (t + j) 0 := by
      rw [List.getD_eq_getElem?_getD, List.getD_eq_getElem?_getD, List.getElem?_take_of_lt hj, List.getElem?_drop]
    rw [e]
    have := hcs (t + j) (by omega)
    rw [show o + (t + j) = o + t + j by omega] at this
    exact this
/-- what piece leaves -/
def PiecePost (ys : List Int) (w : World) (e : Ending) (w' : World) : Prop := ∃ v, e = .returned v ∧ w'.ownsRow 0 5 1 v ys.length (bts ys) ∧ From w.heap.size v ∧ Below w.heap.size w w'
set_option maxRecDepth 20000 in
set_option maxHeartbeats 4000000 in
theorem piece_any (A : Option Addr) (n c t z : Nat) (xs : List Int) (w : World) (hr : Reads w .u8 A n xs) (hc : n ≤ c) (hn : n ≤ 1000000) (ht : t ≤ n) (hz : z < 18446744073709551616) :
    Calls Tryd.prog 56 #[.slice A n c, .int .i64 t, .int .u64 z] w (PiecePost ((xs.drop t).take z) w) := by
  obtain ⟨k, hk⟩ : ∃ k, min z (n - t) = k := ⟨_, rfl⟩
  have hkl : t + k ≤ n := by omega
  have hkt : (xs.drop t).take z = (xs.drop t).take k := by
    rw [← hk, show n - t = (xs.drop t).length by rw [List.length_drop, hr.1], List.take_eq_take_iff, Nat.min_assoc, Nat.min_self]
  rw [hkt]
  obtain ⟨ys, hys⟩ : ∃ ys, (xs.drop t).take k = ys := ⟨_, rfl⟩
  rw [hys]
  have hrp := reads_part (t := t) (k := k) hr hc hkl
  rw [hys] at hrp
  clear hys
  have HRP : Hid (Reads w .u8 (if c = t then A else A.map (·.add t)) (t + k - t) ys) := (by rw [Nat.add_sub_cancel_left]; exact hrp : Reads w .u8 (if c = t then A else A.map (·.add t)) (t + k - t) ys)
  have HL : Hid (ys.length = k) := hrp.1
  have hlit : (w.alloc (.cells #[] 5)).ownsRow 0 5 1 (.slice (some ⟨w.heap.size, 0, none⟩) 0 0) 0 [] := World.ownsRow_lit w #[] 0 (Nat.zero_le _) (by decide) rfl
  have HLIT := Lib.hid hlit
  have HS : Hid (Same w (w.alloc (.cells #[] 5))) := (Fr.refl _ w).alloc _
  have i1 : (n : Int) ≤ 1000000 := by omega
  have i2 : (t : Int) ≤ n := by omega
  have i3 : (t : Int) + k ≤ n := by omega
  have i4 : t ≤ n := ht
  have i5 : t + k ≤ c := by omega
  have hzz : (z : Int) < 18446744073709551616 := by omega
  have HK := Lib.hid hk
  have i6 : (t : Int) + k ≤ c := by omega
  by_cases hzn : (n : Int) - t < z
  · have ek : (n : Int) - t = k := by omega
    have EK := Lib.hid ek
    clear hk hkl hkt hrp hlit hr hc hn ht hz ek
    go_enter Tryd.func56, Tryd.ntmps56
    go_upto_region 3 with fail
    rw [EK.out]
    clear hzn hzz i4 i5
    go_wp2_with (at_builtin; refine wpList_append_reads rfl (.tmp 19) (.tmp 26) 25 5 rfl Tryd.underlying25 info5 (.slice (some ⟨w.heap.size, 0, none⟩) 0 0) 0 (t + k - t) (c - t) _ [] ys rfl rfl HLIT.out (HRP.out.all HS.out (fun _ h => h)) (by omega) ?_; intro v4 w4 hown hfr hloc; have O4 := Lib.hid hown; have F4 := Lib.hid hfr; have L4 := Lib.hid hloc; clear hown hfr hloc)
    all_goals
      go_ret
      refine ⟨v4, rfl, ?_, ?_, ?_⟩
      · have h4 := O4.out
        rw [Nat.add_sub_cancel_left, Nat.zero_add, List.nil_append] at h4
        rw [HL.out]
        exact h4
      · intro j hj
        rcases L4.out with h | h
        · rw [h] at hj; simp [Value.ownBlock] at hj; omega
        · rw [h] at hj; simp at hj; omega
      · exact (below_fr HS.out).trans (F4.out.below _ (by simp) (fun k hk e => by simp [Value.ownBlock] at e; omega))
  · have ek : (z : Int) = k := by omega
    have EK := Lib.hid ek
    have hkz : (k : Int) ≤ (n : Int) - t := by omega
    clear hk hkl hkt hrp hlit hr hc hn ht hz hzn hzz i4 i5
    rw [ek]
    clear ek EK HK
    go_enter Tryd.func56, Tryd.ntmps56
    go_wp2_with (at_builtin; refine wpList_append_reads rfl (.tmp 19) (.tmp 26) 25 5 rfl Tryd.underlying25 info5 (.slice (some ⟨w.heap.size, 0, none⟩) 0 0) 0 (t + k - t) (c - t) _ [] ys rfl rfl HLIT.out (HRP.out.all HS.out (fun _ h => h)) (by omega) ?_; intro v4 w4 hown hfr hloc; have O4 := Lib.hid hown; have F4 := Lib.hid hfr; have L4 := Lib.hid hloc; clear hown hfr hloc)
    all_goals
      go_ret
      refine ⟨v4, rfl, ?_, ?_, ?_⟩
      · have h4 := O4.out
        rw [Nat.add_sub_cancel_left, Nat.zero_add, List.nil_append] at h4
        rw [HL.out]
        exact h4
      · intro j hj
        rcases L4.out with h | h
        · rw [h] at hj; simp [Value.ownBlock] at hj; omega
        · rw [h] at hj; simp at hj; omega
      · exact (below_fr HS.out).trans (F4.out.below _ (by simp) (fun k hk e => by simp [Value.ownBlock] at e; omega))
end Go.Proofs.YtlgonkopojancaaDoor
