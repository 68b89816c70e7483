/- The walk of the document's Name. -/
import Derived.Test.YtlgonkopojancaaDoorFxNameL
namespace Go.Proofs.YtlgonkopojancaaDoor
open Go.RowKit

theorem badP_L (p : ByteArray) : badP p = badL p.data.toList := by unfold badP badL; rw [ByteArray.toList_eq]
theorem part_any (p : ByteArray) (w : World) : Calls Tryd.prog 42 #[.string p] w fun e w' => e = .returned (.bool (!badL p.data.toList)) ∧ w' = w := by
  go_enter Tryd.func42, Tryd.ntmps42
  go_wp2
  all_goals
    go_ret
    refine ⟨ret_bool ?_, rfl⟩
    rw [← badP_L]
    unfold badP
    simp_all

theorem toL_one {L s : ByteArray} {k : Nat} {x : UInt8} {r : List UInt8} (h : s.data.toList.drop k = x :: r) : (L ++ s.extract k (k + 1)).data.toList = L.data.toList ++ [x] := by
  have e : (s.extract k (k + 1)).data.toList = (s.data.toList.drop k).take 1 := by
    rw [Lib.extract_data]
    simp
  have e2 : (L ++ s.extract k (k + 1)).data.toList = L.data.toList ++ (s.extract k (k + 1)).data.toList := by simp
  rw [e2, e, h]
  rfl
theorem nml_step {last cs : List UInt8} {c : UInt8} (h : okB c = true) (h47 : c ≠ 47) : nmL last (c :: cs) = nmL (last ++ [c]) cs := by rw [nmL, h, if_neg h47]; rfl
theorem nml_bar {last cs : List UInt8} {c : UInt8} (h : okB c = true) (h47 : c = 47) : nmL last (c :: cs) = (!badL last && nmL [] cs) := by rw [nmL, h, if_pos h47]; rfl
theorem nml_bad {last cs : List UInt8} {c : UInt8} (h : okB c = false) : nmL last (c :: cs) = false := by rw [nmL, h]; rfl

set_option maxRecDepth 20000 in
set_option maxHeartbeats 2000000 in
theorem refname_any (s : ByteArray) (w : World) (hs : s.size ≤ 9223372036854775807) : Calls Tryd.prog 26 #[.string s] w fun e w' => e = .returned (.bool (nameB s)) ∧ w' = w := by
  have HD := Lib.hid (name_doc s)
  by_cases h1 : (s.size : Int) < 1
  · have hr : nameB s = false := by rw [HD.out, decide_eq_false (by omega)]; rfl
    have HR := Lib.hid hr; clear hr
    go_enter Tryd.func26, Tryd.ntmps26
    go_wp2
    go_ret
    exact ⟨ret_bool HR.out.symm, rfl⟩
  · by_cases h2 : (100 : Int) < s.size
    · have hr : nameB s = false := by rw [HD.out, decide_eq_false (by omega : ¬ s.size ≤ 100), Bool.false_and, Bool.and_false]
      have HR := Lib.hid hr; clear hr
      go_enter Tryd.func26, Tryd.ntmps26
      go_wp2
      go_ret
      exact ⟨ret_bool HR.out.symm, rfl⟩
    · have hr : nameB s = nmL [] s.data.toList := by rw [HD.out, decide_eq_true (by omega : 1 ≤ s.size), decide_eq_true (by omega : s.size ≤ 100)]; rfl
      have HR := Lib.hid hr; clear hr
      have hsz : s.data.toList.length = s.size := rfl
      have HSZ := Lib.hid hsz
      clear hsz
      go_enter Tryd.func26, Tryd.ntmps26
      go_wp2
      go_loop [3, 4, 5] (fun v3 v4 _ => ∃ (k : Nat) (L : ByteArray), v3 = .string L ∧ v4 = .int .i64 k ∧ Hid (k ≤ s.size) ∧ Hid (L.size ≤ k) ∧ Hid (nmL [] s.data.toList = nmL L.data.toList (s.data.toList.drop k))) (fun _ v4 _ => s.size - (intOf v4).toNat)
      case atStart => exact ⟨0, ⟨#[]⟩, rfl, rfl, Nat.zero_le _, Nat.le_refl 0, rfl⟩
      case round =>
        obtain ⟨k, L, rfl, rfl, HK, HLS, HN⟩ := hrel
        by_cases hk : k < s.size
        · obtain ⟨x, hx⟩ : ∃ x, s[k] = x := ⟨_, rfl⟩
          have hkl : k < s.data.toList.length := by have := HSZ.out; omega
          have hd : s.data.toList.drop k = x :: s.data.toList.drop (k + 1) := by rw [List.drop_eq_getElem_cons hkl, ← hx]; rfl
          have HDR := Lib.hid hd; clear hd hkl
          by_cases hb : (x.toNat : Int) < 33 ∨ (126 : Int) < (x.toNat : Int) ∨ (x.toNat : Int) = 92
          · have hr : nameB s = false := by rw [HR.out, HN.out, HDR.out, nml_bad (okB_no hb)]
            have HRR := Lib.hid hr; clear hr
            rcases hb with hb | hb | hb
            · go_wp2_with fail
              go_ret
              exact ⟨ret_bool HRR.out.symm, rfl⟩
            · have h0 : ¬ (x.toNat : Int) < 33 := by omega
              go_wp2_with fail
              go_ret
              exact ⟨ret_bool HRR.out.symm, rfl⟩
            · have h0 : ¬ (x.toNat : Int) < 33 := by omega
              have h2 : ¬ (126 : Int) < (x.toNat : Int) := by omega
              have h3 : ((x.toNat : Int) == 92) = true := by rw [hb]; rfl
              clear hb
              go_wp2_with fail
              go_ret
              exact ⟨ret_bool HRR.out.symm, rfl⟩
          · have h0 : ¬ (x.toNat : Int) < 33 := by omega
            have h2 : ¬ (126 : Int) < (x.toNat : Int) := by omega
            have h3 : ((x.toNat : Int) == 92) = false := by rw [beq_eq_false_iff_ne]; omega
            have hok := okB_of h0 h2 h3
            have HOK := Lib.hid hok; clear hok hb
            by_cases h47 : x = 47
            · have h4 : ((x.toNat : Int) == 47) = true := by rw [h47]; rfl
              have HX := Lib.hid h47; clear h47
              have hst : nmL L.data.toList (s.data.toList.drop k) = (!badL L.data.toList && nmL [] (s.data.toList.drop (k + 1))) := by rw [HDR.out, nml_bar HOK.out HX.out]
              rcases hbl : badL L.data.toList with _ | _
              · rw [hbl] at hst
                have hst : nmL L.data.toList (s.data.toList.drop k) = nmL [] (s.data.toList.drop (k + 1)) := hst
                have HST := Lib.hid hst; have HBL := Lib.hid hbl; clear hst hbl
                go_wp2_with (go_at_call 42; refine (part_any L _).mono ?_; rintro e w1 ⟨rfl, rfl⟩; rw [HBL.out])
                go_round
                case rel => exact ⟨k + 1, ⟨#[]⟩, rfl, by go_num, hk, Nat.zero_le _, HN.out.trans HST.out⟩
                case measure => simp [intOf]; omega
              · rw [hbl] at hst
                have hst : nmL L.data.toList (s.data.toList.drop k) = false := hst
                have hr : nameB s = false := by rw [HR.out, HN.out, hst]
                have HRR := Lib.hid hr; have HBL := Lib.hid hbl; clear hst hbl hr
                go_wp2_with (go_at_call 42; refine (part_any L _).mono ?_; rintro e w1 ⟨rfl, rfl⟩; rw [HBL.out])
                go_ret
                exact ⟨ret_bool HRR.out.symm, rfl⟩
            · have h4 : ((x.toNat : Int) == 47) = false := by
                rw [beq_eq_false_iff_ne]
                intro e
                exact h47 (UInt8.toNat_inj.1 (by have : x.toNat = 47 := by omega
                                                 rw [this]; rfl))
              have HST : Hid (nmL L.data.toList (s.data.toList.drop k) = nmL (L.data.toList ++ [x]) (s.data.toList.drop (k + 1))) := (by rw [HDR.out, nml_step HOK.out h47] : nmL L.data.toList (s.data.toList.drop k) = nmL (L.data.toList ++ [x]) (s.data.toList.drop (k + 1)))
              clear h47
              have HX := Lib.hid hx
              have hno : ¬ 9223372036854775807 < L.size + (min (k + 1) s.size - k) := by have := HLS.out; omega
              go_wp2_with fail
              go_round
              case rel =>
                refine ⟨k + 1, _, rfl, by go_num, hk, ?_, ?_⟩
                · show (L ++ s.extract k (k + 1)).size ≤ k + 1
                  have := HLS.out
                  rw [ByteArray.size_append, ByteArray.size_extract]
                  omega
                show nmL [] s.data.toList = nmL _ _
                rw [HN.out, HST.out]
                congr 1
                exact (toL_one HDR.out).symm
              case measure => simp [intOf]; omega
        · have hkn : k = s.size := by have := HK.out; omega
          have hd : s.data.toList.drop k = [] := List.drop_of_length_le (by have := HSZ.out; omega)
          have hr : nameB s = !badL L.data.toList := by rw [HR.out, HN.out, hd]; rfl
          have HRR := Lib.hid hr; clear hd hr hkn
          go_wp2_with (go_at_call 42; refine (part_any L _).mono ?_; rintro e w1 ⟨rfl, rfl⟩)
          go_ret
          exact ⟨ret_bool HRR.out.symm, rfl⟩
end Go.Proofs.YtlgonkopojancaaDoor
