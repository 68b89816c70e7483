/- The walk of the reference's Expand. -/
import Derived.Test.YtclamfdmgflofaaMxExpand
namespace Go.Proofs.Ytclamfdmgflofaa
open Go.RowKit
open Mx

theorem rexpand_neg (A : Option Addr) (n c : Nat) (L : Option Addr) (m cl : Nat) (most : Int) (h : most < 0) (w : World) :
    Calls Try.prog 15 #[.slice A n c, .slice L m cl, .int .i64 most] w fun e w' => e = .returned (.tuple #[.slice none 0 0, .int .i64 1]) ∧ w' = w := by
  go_enter Try.func15, Try.ntmps15
  go_wp2
  go_ret2
  exact ⟨rfl, rfl⟩

set_option maxRecDepth 20000 in
set_option maxHeartbeats 4000000 in
theorem rexpand_any (A : Option Addr) (c : Nat) (zs : List Int) (n : Nat) (L : Option Addr) (cl : Nat) (ts : List Tok) (m : Nat) (most : Int) (w : World) (hn : zs.length = n) (hr : Reads w .u8 A n zs) (ht : ReadsT w L m ts) (hnl : n ≤ 20000) (hml : m ≤ 20000) (h0 : 0 ≤ most) (h1 : most ≤ 1000000) :
    Calls Try.prog 15 #[.slice A n c, .slice L m cl, .int .i64 most] w fun e w' => ∃ A' c' U, e = .returned (.tuple #[.slice A' U c', .int .i64 (expand zs ts most).2]) ∧ Reads w' .u8 A' U (expand zs ts most).1 ∧ Below w.heap.size w w' := by
  have HR := Lib.hid hr; clear hr
  have HT := Lib.hid ht; clear ht
  have HN := Lib.hid hn; clear hn
  have HNL := Lib.hid hnl; have HML := Lib.hid hml; have HM1 := Lib.hid h1; clear hnl hml h1
  obtain ⟨i5, hi, hq0, hq1, hq2⟩ := info_parts info5
  have HI := Lib.hid (And.intro hi (And.intro hq0 (And.intro hq1 hq2)))
  clear hi hq0 hq1 hq2
  go_enter Try.func15, Try.ntmps15
  go_wp2_with (at_builtin; refine wpList_append_reads rfl (.tmp 14) (.tmp 15) 23 5 rfl Try.underlying23 info5 (.slice (some ⟨w.heap.size, 0, none⟩) 0 0) 0 n c A [] zs rfl rfl (World.ownsRow_made w #[] 0 (Nat.zero_le _) (Nat.zero_le _) rfl) (HR.out.fr ((Fr.refl (fun _ => False) _).alloc _) (fun _ _ _ h => h)) (by have := HNL.out; omega) ?_; intro v2 w2 hown hfr hloc; rw [Nat.zero_add] at hown; obtain ⟨A2, k2, rfl⟩ := own_shape hown; have HO2 := Lib.hid hown; clear hown; have BF2 := Lib.hid (alloc_grown hfr); clear hfr; have HF2 := Lib.hid (from_alloc hloc); clear hloc)
  go_loopw [8, 9] (fun v8 v18 wr => ∃ (k : Nat) (all : List Int), v18 = .int .i64 k ∧ Hid (k ≤ m) ∧ Hid (wr.ownsRow 0 5 1 v8 all.length (all.map (Value.int .u8))) ∧ Hid (From w.heap.size v8) ∧ Hid (Below w.heap.size w wr) ∧ Hid (expand zs ts most = ex n most (ts.drop k) all) ∧ Hid (n ≤ all.length) ∧ Hid (all.length ≤ n + 258 * k)) (fun _ v18 _ => m - (intOf v18).toNat)
  case atStart =>
    refine ⟨0, zs, rfl, Nat.zero_le _, ?_, HF2.out, BF2.out, ?_, ?_, ?_⟩
    · have := HO2.out
      rw [List.nil_append] at this
      rw [HN.out]; exact this
    · show expand zs ts most = _
      unfold expand
      rw [if_neg (by omega), List.drop_zero, HN.out]
    · rw [HN.out]; exact Nat.le_refl _
    · rw [HN.out]; exact Nat.le_refl _
  case round =>
    obtain ⟨k, all, rfl, HK, HO, HV, HB, HE, HA1, HA2⟩ := hrel
    obtain ⟨wo, rfl⟩ : ∃ wo : World, wo = wr := ⟨_, rfl⟩
    have T2 := Lib.hid (HT.out.same HB.out)
    by_cases hkm : (k : Int) < m
    · obtain ⟨b, o, rfl, hc⟩ := T2.out.2 (by omega)
      obtain ⟨c0, c1, c2⟩ := hc k (by omega)
      clear hc
      have hdrop : ts.drop k = ts.getD k (0, 0, 0) :: ts.drop (k + 1) := by
        have hk : k < ts.length := by have := HT.out.1; omega
        rw [List.drop_eq_getElem_cons hk]
        congr 1
        rw [List.getD_eq_getElem?_getD, List.getElem?_eq_getElem hk]; rfl
      have HD := Lib.hid hdrop; clear hdrop
      generalize ts.getD k (0, 0, 0) = t at *
      obtain ⟨x, y, z⟩ := t
      simp only at c0 c1 c2
      have HC := Lib.hid (fun w => rcheck_any x y z w)
      have HG := Lib.hid (blk_new wo (.cells #[.int .u8 x, .int .i64 y, .int .i64 z] 33))
      obtain ⟨A3, k3, rfl⟩ := own_shape HO.out
      have hki : (k : Int) ≤ 20000 := by have := HML.out; omega
      rcases ck_cases (x, y, z) with hck | hck
      · rcases ck_good hck with hg | hg
        · -- a byte
          obtain ⟨hy, hz⟩ := hg
          simp only at hy hz
          subst hy
          subst hz
          rw [hck] at HC
          have HCK := Lib.hid hck
          clear hck
          have hz : ¬ (all.length : Int) < 0 := by omega
          have hlb : all.length + 1 ≤ 100000000 := by have := HA2.out; have := HNL.out; have := HML.out; have := HK.out; omega
          have HLB := Lib.hid hlb
          have hlbI : (all.length : Int) ≤ 100000000 := by omega
          have hnI : (n : Int) ≤ 20000 := by have := HNL.out; omega
          clear hlb
          go_wp2_with (first
            | (go_at_call 17; refine (HC.out _).mono ?_; rintro e w3 ⟨rfl, h3⟩; have H3 := Lib.hid (new_below h3); have O3 := Lib.hid (new_own h3 HO.out); have c30 := blk_cell (new_blk h3) 0; have c31 := blk_cell (new_blk h3) 1; have c32 := blk_cell (new_blk h3) 2; have hg3 := new_lt h3; have G3 := Lib.hid (new_blk h3); clear h3)
            | (at_builtin; refine wpList_append_one rfl (.tmp 40) (.tmp 43) 23 rfl i5 (.int .u8 0) 1 Try.underlying23 HI.out.1 HI.out.2.1 HI.out.2.2.1 HI.out.2.2.2 rfl (.slice A3 all.length k3) all.length (all.map (Value.int .u8)) rfl rfl O3.out rfl (by decide) (by have := HLB.out; omega) ?_; intro v4 w4 hown hfr hloc; obtain ⟨A4, k4, rfl⟩ := own_shape hown; have c40 := hfr.cell c31 (fun e => own_ne O3.out G3.out (by decide) e.symm); have O4 := Lib.hid hown; have F4 := Lib.hid hfr; have L4 := Lib.hid hloc; clear hown hfr hloc))
          go_loopw [8, 11] (fun v8 v42 wi => v8 = .slice A4 (all.length + 1) k4 ∧ v42 = .int .i64 0 ∧ wi = w4) (fun _ _ _ => 0)
          case atStart => exact ⟨rfl, rfl, rfl⟩
          case round =>
            obtain ⟨rfl, rfl, rfl⟩ := hrel
            have B3 := HB.out.trans (H3.out.mono HB.out.size)
            have BV4 := Lib.hid (B3.trans (grown_from F4.out B3.size HV.out))
            have FV4 := Lib.hid (from_one L4.out B3.size HV.out)
            clear B3
            have hput : put (x, 0, 0) all = all ++ [x] := rfl
            by_cases hm : most < (all.length : Int) + 1 - n
            · have HE2 : Hid (expand zs ts most = ([], 151)) := (by
                rw [HE.out, HD.out, ex, if_neg (by rw [HCK.out]; simp <;> omega), if_pos (by rw [hput]; simp <;> omega)] : expand zs ts most = ([], 151))
              clear hput
              go_wp2
              go_ret2
              exact ⟨none, 0, 0, by rw [HE2.out]; rfl, by rw [HE2.out]; exact Reads.nil _ _ _, BV4.out⟩
            · have HE2 : Hid (expand zs ts most = ex n most (ts.drop (k + 1)) (all ++ [x])) := (by
                rw [HE.out, HD.out, ex, if_neg (by rw [HCK.out]; simp <;> omega), if_neg (by rw [hput]; simp <;> omega)]; rfl : expand zs ts most = ex n most (ts.drop (k + 1)) (all ++ [x]))
              clear hput
              go_wp2
              go_roundw
              case rel =>
                refine ⟨k + 1, all ++ [x], by go_num, ?_, ?_, FV4.out, BV4.out, HE2.out, ?_, ?_⟩
                · show k + 1 ≤ m
                  omega
                · show World.ownsRow _ _ _ _ _ _ _
                  have := O4.out
                  simpa using this
                · show n ≤ _
                  have := HA1.out; simp; omega
                · show _ ≤ _
                  have := HA2.out; simp; omega
              case measure => simp [intOf]; omega
        · -- a match
          obtain ⟨hx, hy1, hy2, hz1, hz2⟩ := hg
          simp only at hx hy1 hy2 hz1 hz2
          subst hx
          rw [hck] at HC
          have HCK := Lib.hid hck
          clear hck
          obtain ⟨yn, rfl⟩ := Int.eq_ofNat_of_zero_le (show 0 ≤ y by omega)
          obtain ⟨zn, rfl⟩ := Int.eq_ofNat_of_zero_le (show 0 ≤ z by omega)
          have hy0 : (((yn : Nat) : Int) == 0) = false := by rw [beq_eq_false_iff_ne]; omega
          by_cases hz : (all.length : Int) < (zn : Nat)
          · have HE2 : Hid (expand zs ts most = ([], 140)) := (by rw [HE.out, HD.out, ex, if_pos (.inr hz)] : expand zs ts most = ([], 140))
            go_wp2_with (go_at_call 17; refine (HC.out _).mono ?_; rintro e w3 ⟨rfl, h3⟩; have H3 := Lib.hid h3; have c32 := (h3.cell (p := ⟨wo.heap.size, 2, none⟩) (by simp)).trans (blk_cell HG.out 2); clear h3)
            go_ret2
            refine ⟨none, 0, 0, by rw [HE2.out]; rfl, by rw [HE2.out]; exact Reads.nil _ _ _, ?_⟩
            exact (HB.out.alloc HB.out.size _).trans (H3.out.mono (Nat.le_trans HB.out.size (by simp)))
          · have hlb : all.length + 1 ≤ 100000000 := by have := HA2.out; have := HNL.out; have := HML.out; have := HK.out; omega
            have HLB := Lib.hid hlb
            have hnI : (n : Int) ≤ 20000 := by have := HNL.out; omega
            have HZ := Lib.hid hz
            have hzd : decide ((all.length : Int) < (zn : Int)) = false := decide_eq_false hz
            have hzn : decide (all.length < zn) = false := decide_eq_false (by omega)
            clear hlb hz
            go_wp2_with (go_at_call 17; refine (HC.out _).mono ?_; rintro e w3 ⟨rfl, h3⟩; have H3 := Lib.hid (new_below h3); have O3 := Lib.hid (new_own h3 HO.out); have c31 := blk_cell (new_blk h3) 1; have c32 := blk_cell (new_blk h3) 2; have hg3 := new_lt h3; have G3 := Lib.hid (new_blk h3); clear h3)
            go_loopw [8, 11] (fun v8 v42 wi => ∃ (j : Nat) (cur : List Int), v42 = .int .i64 j ∧ Hid (j ≤ yn) ∧ Hid (cur = cpy zn j all) ∧ Hid (wi.ownsRow 0 5 1 v8 cur.length (cur.map (Value.int .u8))) ∧ Hid (From w.heap.size v8) ∧ Hid (Below w.heap.size w wi) ∧ Hid (wi.heap[wo.heap.size]? = some (.cells #[.int .u8 0, .int .i64 (yn : Int), .int .i64 (zn : Int)] 33 (0, 0)))) (fun _ v42 _ => yn - (intOf v42).toNat)
            case atStart => exact ⟨0, all, rfl, Nat.zero_le _, rfl, O3.out, HV.out, HB.out.trans (H3.out.mono HB.out.size), G3.out⟩
            case round =>
              obtain ⟨j, cur, rfl, HJ, HCU, HO5, HV5, HB5, HG5⟩ := hrel
              clear c31 c32
              have c52 := blk_cell HG5.out 2
              have c51 := blk_cell HG5.out 1
              have hlen : cur.length = all.length + j := by rw [HCU.out, length_cpy]
              have HLEN := Lib.hid hlen; clear hlen
              have hcI : (cur.length : Int) ≤ 100001000 := by have := HLEN.out; have := HJ.out; have := HLB.out; omega
              have hc0 : (0 : Int) < (cur.length : Int) := by have := HLEN.out; have := HZ.out; omega
              obtain ⟨b5, k5, rfl, hc5⟩ := own_cells HO5.out (by omega)
              by_cases hj : (j : Int) < (yn : Nat)
              · obtain ⟨d, hd⟩ : ∃ d : Nat, (cur.length : Int) - (zn : Nat) = (d : Int) := ⟨cur.length - zn, by have := HLEN.out; have := HZ.out; omega⟩
                have hdl : (d : Int) < (cur.length : Int) := by omega
                have c5d := hc5 d (.int .u8 (cur.getD d 0)) (by simp [List.getD, List.getElem?_eq_getElem (show d < cur.length by omega)])
                have HCU2 : Hid (cpy zn (j + 1) all = cur ++ [cur.getD d 0]) := (by
                  rw [cpy_succ, ← HCU.out]; congr 3; omega : cpy zn (j + 1) all = cur ++ [cur.getD d 0])
                clear hc5
                generalize cur.getD d 0 = q at *
                go_wp2_with (at_builtin; refine wpList_append_one rfl (.tmp 51) (.tmp 60) 23 rfl i5 (.int .u8 0) 1 Try.underlying23 HI.out.1 HI.out.2.1 HI.out.2.2.1 HI.out.2.2.2 rfl (.slice (some ⟨b5, 0, none⟩) cur.length k5) cur.length (cur.map (Value.int .u8)) rfl rfl HO5.out rfl (by decide) (by have := hcI; omega) ?_; intro v6 w6 hown hfr hloc; obtain ⟨A6, k6, rfl⟩ := own_shape hown; have O6 := Lib.hid hown; have F6 := Lib.hid hfr; have L6 := Lib.hid hloc; clear hown hfr hloc)
                go_roundw
                case rel =>
                  refine ⟨j + 1, cur ++ [q], by go_num, ?_, HCU2.out.symm, ?_, from_one L6.out HB5.out.size HV5.out, HB5.out.trans (grown_from F6.out HB5.out.size HV5.out), F6.out.blk HG5.out (fun e => own_ne HO5.out HG5.out (by decide) e.symm)⟩
                  · show j + 1 ≤ yn
                    omega
                  · show World.ownsRow _ _ _ _ _ _ _
                    have := O6.out
                    simpa using this
                case measure => simp [intOf]; omega
              · have hjy : j = yn := by have := HJ.out; omega
                have HP : Hid (put (0, (yn : Int), (zn : Int)) all = cur) := (by
                  rw [HCU.out, hjy]; unfold put; rw [if_neg (by simp; omega)]; simp : put (0, (yn : Int), (zn : Int)) all = cur)
                have HJY := Lib.hid hjy
                clear hjy hc5 c52
                by_cases hm : most < (cur.length : Int) - n
                · have HE2 : Hid (expand zs ts most = ([], 151)) := (by
                    rw [HE.out, HD.out, ex, if_neg (by rw [HCK.out]; have := HZ.out; simp <;> omega), if_pos (by rw [HP.out]; exact hm)] : expand zs ts most = ([], 151))
                  go_wp2
                  go_ret2
                  exact ⟨none, 0, 0, by rw [HE2.out]; rfl, by rw [HE2.out]; exact Reads.nil _ _ _, HB5.out⟩
                · have HE2 : Hid (expand zs ts most = ex n most (ts.drop (k + 1)) cur) := (by
                    rw [HE.out, HD.out, ex, if_neg (by rw [HCK.out]; have := HZ.out; simp <;> omega), if_neg (by rw [HP.out]; exact hm), HP.out] : expand zs ts most = ex n most (ts.drop (k + 1)) cur)
                  go_wp2
                  go_roundw
                  case rel =>
                    refine ⟨k + 1, cur, by go_num, ?_, HO5.out, HV5.out, HB5.out, HE2.out, ?_, ?_⟩
                    · show k + 1 ≤ m
                      omega
                    · show n ≤ _
                      have := HA1.out; have := HLEN.out; omega
                    · show _ ≤ _
                      have := HA2.out; have := HLEN.out; have := HJ.out; omega
                  case measure => simp [intOf]; omega
      · have HE2 : Hid (expand zs ts most = ([], 140)) := (by rw [HE.out, HD.out, ex, if_pos (.inl (by rw [hck]; decide))] : expand zs ts most = ([], 140))
        rw [hck] at HC
        go_wp2_with (go_at_call 17; refine (HC.out _).mono ?_; rintro e w3 ⟨rfl, h3⟩; have H3 := Lib.hid h3; clear h3)
        go_ret2
        refine ⟨none, 0, 0, by rw [HE2.out]; rfl, by rw [HE2.out]; exact Reads.nil _ _ _, ?_⟩
        exact (HB.out.alloc HB.out.size _).trans (H3.out.mono (Nat.le_trans HB.out.size (by simp)))
    · have hkm' : k = m := by have := HK.out; omega
      have HE2 : Hid (expand zs ts most = (all.drop n, 0)) := (by rw [HE.out, List.drop_eq_nil_of_le (by rw [HT.out.1]; omega), ex] : expand zs ts most = (all.drop n, 0))
      clear hkm' 
      obtain ⟨A3, k3, he3, hr3⟩ := own_reads HO.out
      have hcap : all.length ≤ k3 := by
        rcases HO.out.2 with ⟨q1, q2⟩ | ⟨g, cap, cur, q1, _, _, hc, _⟩
        · rw [he3] at q1; injection q1 with _ q3 q4; omega
        · rw [he3] at q1; injection q1 with _ q3 q4; omega
      subst he3
      have R3 := Lib.hid hr3
      have hla : (n : Int) ≤ all.length := by have := HA1.out; omega
      have hlc : (all.length : Int) ≤ k3 := by omega
      clear hcap hr3
      obtain ⟨la, hla2⟩ : ∃ la, all.length = la := ⟨_, rfl⟩
      rw [hla2] at hla hlc
      go_wp2
      · go_ret2
        refine ⟨_, _, la - n, by rw [HE2.out]; rfl, ?_, HB.out⟩
        rw [HE2.out]
        have : all.drop n = [] := List.drop_eq_nil_of_le (by omega)
        rw [this]
        refine ⟨by simp; omega, by omega, fun hp => by omega⟩
      · go_ret2
        refine ⟨_, _, la - n, by rw [HE2.out]; rfl, ?_, HB.out⟩
        rw [HE2.out]
        have hr := R3.out
        rw [hla2] at hr
        exact reads_drop hr n (by omega)
end Go.Proofs.Ytclamfdmgflofaa
