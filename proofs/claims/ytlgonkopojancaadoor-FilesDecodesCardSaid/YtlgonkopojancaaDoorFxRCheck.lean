/- The reference's Check. -/
import Derived.Test.YtlgonkopojancaaDoorFxRFind
import Derived.Test.YtlgonkopojancaaDoorFxRName
import Derived.Test.YtlgonkopojancaaDoorFxTold
import Derived.BigQuiet
namespace Go.Proofs.YtlgonkopojancaaDoor
open Go.RowKit

theorem getD_lt {fs : List Fi} {j : Nat} (h : j < fs.length) : fs.getD j default = fs[j] := by rw [List.getD_eq_getElem?_getD, List.getElem?_eq_getElem h]; rfl
theorem inL_no {fs : List Fi} {nm : ByteArray} {k : Nat} (h : noneTo fs nm k) (hk : k ≤ fs.length) : inL nm ((fs.take k).map Fi.name) = false := by
  rcases hi : inL nm ((fs.take k).map Fi.name) with _ | _
  · rfl
  · obtain ⟨f, hf, e⟩ := List.mem_map.1 (inL_mem.1 hi)
    obtain ⟨j, hj, rfl⟩ := List.getElem_of_mem hf
    rw [List.length_take] at hj
    have := h j (by omega)
    rw [getD_lt (by omega)] at this
    rw [List.getElem_take] at e
    exact absurd e this
theorem inL_yes {fs : List Fi} {nm : ByteArray} {j k : Nat} (hj : j < k) (hk : k ≤ fs.length) (e : (fs.getD j default).name = nm) : inL nm ((fs.take k).map Fi.name) = true := by
  refine inL_mem.2 (List.mem_map.2 ⟨fs[j], ?_, by rw [← e, getD_lt (by omega)]⟩)
  have : (fs.take k)[j]'(by rw [List.length_take]; omega) = fs[j] := List.getElem_take
  rw [← this]
  exact List.getElem_mem _
set_option maxRecDepth 20000 in
set_option maxHeartbeats 4000000 in
theorem rcheck_any (fs : List Fi) (A : Option Addr) (n c : Nat) (w : World) (hf : FRd w A n fs) (hn : n ≤ 1000000) (hb : ∀ f ∈ fs, f.body.length ≤ 1000000) (hs : ∀ f ∈ fs, f.name.size ≤ 9223372036854775807) :
    Calls Tryd.prog 24 #[.slice A n c] w fun e w' => e = .returned (.int .i64 (checkI fs)) ∧ Same w w' := by
  have HF := Lib.hid hf; have HBL := Lib.hid hb; have HSZ := Lib.hid hs
  have hl := hf.1
  have HL := Lib.hid hl
  clear hf hb hs hl
  go_enter Tryd.func24, Tryd.ntmps24
  go_wp2_with fail
  go_loopw [3, 4, 5, 6, 7] (fun v3 v4 v5 _ _ wr => ∃ k : Nat, v5 = .int .i64 k ∧ v3 = .int .i64 (total (fs.take k)) ∧ v4 = .bool (wide (fs.take k)) ∧ (k : Int) ≤ n ∧ Hid (Same w wr) ∧ Hid (namesOk [] fs = namesOk ((fs.take k).map Fi.name) (fs.drop k))) (fun _ _ v5 _ _ _ => n - (intOf v5).toNat)
  case atStart => exact ⟨0, rfl, rfl, rfl, by omega, Fr.refl _ _, rfl⟩
  case round =>
    obtain ⟨k, rfl, rfl, rfl, hkn, HSM, HNM⟩ := hrel
    have htl := total_le (fs.take k) 1000000 (fun f hf => HBL.out f (List.mem_of_mem_take hf))
    have hT : total (fs.take k) ≤ 1000000000000 := by rw [List.length_take] at htl; omega
    clear htl
    by_cases hk : (k : Int) < n
    · obtain ⟨b, o, A1, n1, c1, rfl, hr1, hc1⟩ := HF.out.load (j := k) (by omega)
      have hst := hc1 wr (below_fr HSM.out)
      have hkl : k < fs.length := by have := HL.out; omega
      have hmem : fs.getD k default ∈ fs := by rw [getD_lt hkl]; exact List.getElem_mem _
      have hbl := HBL.out _ hmem
      have hsz := HSZ.out _ hmem
      have hts := take_snoc hkl
      have hdc := drop_cons hkl
      obtain ⟨f, hfe⟩ : ∃ f, fs.getD k default = f := ⟨_, rfl⟩
      rw [hfe] at hst hbl hsz hts hdc
      have hrl := hr1.1
      rw [hfe] at hrl
      obtain ⟨fn, fm, ft, fb⟩ := f
      obtain ⟨q0, q1, q2, q3⟩ := hst
      dsimp only at *
      obtain ⟨T, hTe⟩ : ∃ T, total (fs.take k) = T := ⟨_, rfl⟩
      obtain ⟨Wd, hWe⟩ : ∃ Wd, wide (fs.take k) = Wd := ⟨_, rfl⟩
      rw [hTe] at hT
      have HTS := Lib.hid hts; have HDC := Lib.hid hdc; have HRL := Lib.hid hrl; have HTE := Lib.hid hTe; have HWE := Lib.hid hWe
      have hn1 : (n1 : Int) ≤ 1000000 := by omega
      have hT1 : (T : Int) ≤ 1000000000000 := by omega
      have HC1 := Lib.hid hc1; have HKL := Lib.hid hkl; have HFE := Lib.hid hfe; have HSZ1 := Lib.hid hsz
      rw [hTe, hWe]
      clear hc1 hr1 hfe hmem hts hdc hrl hTe hWe hT hbl hkl hsz q2
      go_wp2_with fail
      refine (refname_any fn wr HSZ1.out).mono ?_
      rintro e w2 ⟨rfl, rfl⟩
      by_cases hok : nameB fn = true
      · rw [hok]
        have HOK := Lib.hid hok
        clear hok
        go_wp2_with fail
        go_loopw [7] (fun v7 w3 => ∃ j : Nat, v7 = .int .i64 j ∧ (j : Int) ≤ k ∧ Hid (noneTo fs fn j) ∧ Hid (Same w w3)) (fun v7 _ => k - (intOf v7).toNat)
        case atStart => exact ⟨0, rfl, by omega, fun j hj => absurd hj (Nat.not_lt_zero _), HSM.out⟩
        case round =>
          clear q0 q1 q3 HSM
          obtain ⟨j, rfl, hjk, HNT, HSM⟩ := hrel
          obtain ⟨q0, q1, _, q3⟩ := HC1.out _ (below_fr HSM.out)
          rw [HFE.out] at q0 q1
          dsimp only at q0 q1
          by_cases hj : (j : Int) < k
          · obtain ⟨b', o', A2, n2, c2, hA, _, hc2⟩ := HF.out.load (j := j) (by omega)
            injection hA with hA
            injection hA with hA1 hA2
            subst hA1; subst hA2
            have p0 := (hc2 _ (below_fr HSM.out)).1
            obtain ⟨gn, hgn⟩ : ∃ s, (fs.getD j default).name = s := ⟨_, rfl⟩
            rw [hgn] at p0
            have HGN := Lib.hid hgn
            clear hc2 hgn q1 q3
            go_wp2_with fail
            by_cases he : gn = fn
            · subst he
              have HRES : Hid (checkI fs = 160) := (by
                have h1 : namesOk [] fs = false := by
                  rw [HNM.out, HDC.out, namesOk, inL_yes (by omega) (by have := HKL.out; omega) HGN.out]
                  simp
                unfold checkI; rw [h1]; rfl : checkI fs = 160)
              go_quiet (fail)
              go_wp2_with fail
              go_ret
              exact ⟨by rw [HRES.out]; rfl, HSM.out.drewN _⟩
            · have h5 : (gn.toList == fn.toList) = false := beq_eq_false_iff_ne.2 fun e => he (bytes_ext _ _ (by rw [← ByteArray.toList_eq, ← ByteArray.toList_eq, e]))
              have HNE := Lib.hid he
              clear he
              go_quiet (fail)
              go_wp2_with fail
              go_roundw
              case rel => exact ⟨j + 1, by go_num, by omega, (fun i hi => by
                by_cases hij : i < j
                · exact HNT.out i hij
                · have : i = j := by omega
                  subst this
                  rw [HGN.out]; exact HNE.out : noneTo fs fn (j + 1)), HSM.out.drewN _⟩
              case measure => simp [intOf]; omega
          · have hjk2 : j = k := by omega
            subst hjk2
            have HNM2 : Hid (namesOk [] fs = namesOk ((fs.take (j + 1)).map Fi.name) (fs.drop (j + 1))) := (by
              rw [HNM.out, HDC.out, namesOk, HOK.out, inL_no HNT.out (by have := HKL.out; omega), HTS.out]
              simp : namesOk [] fs = namesOk ((fs.take (j + 1)).map Fi.name) (fs.drop (j + 1)))
            have HT2 : Hid (total (fs.take (j + 1)) = T + n1) := (by rw [HTS.out]; unfold total at *; rw [List.map_append, List.sum_append, HTE.out]; simp [HRL.out] : total (fs.take (j + 1)) = T + n1)
            have HW2 : Hid (wide (fs.take (j + 1)) = (Wd || decide (4095 < fm))) := (by rw [HTS.out]; unfold wide at *; rw [List.any_append, HWE.out]; simp : wide (fs.take (j + 1)) = (Wd || decide (4095 < fm)))
            rcases Wd with _ | _
            · go_wp2_with fail
              go_roundw
              case rel => exact ⟨j + 1, by go_num, by rw [HT2.out]; go_num, by rw [HW2.out]; rfl, by omega, HSM.out, HNM2.out⟩
              case measure => simp [intOf]; omega
            · go_wp2_with fail
              go_roundw
              case rel => exact ⟨j + 1, by go_num, by rw [HT2.out]; go_num, by rw [HW2.out]; rfl, by omega, HSM.out, HNM2.out⟩
              case measure => simp [intOf]; omega
      · have hok2 : nameB fn = false := by simpa using hok
        rw [hok2]
        have HRES : Hid (checkI fs = 160) := (by
          have h1 : namesOk [] fs = false := by
            rw [HNM.out, HDC.out, namesOk, hok2]
            simp
          unfold checkI; rw [h1]; rfl : checkI fs = 160)
        clear hok hok2
        go_wp2_with fail
        go_ret
        exact ⟨by rw [HRES.out]; rfl, HSM.out⟩
    · have hkn2 : k = n := by omega
      subst hkn2
      have ht : fs.take k = fs := List.take_of_length_le (by have := HL.out; omega)
      have hd : fs.drop k = [] := List.drop_of_length_le (by have := HL.out; omega)
      have HRES : Hid (checkI fs = if decide (200 < k) || wide fs || decide (2097152 < total fs) then 161 else 0) := (by
        unfold checkI
        rw [HNM.out, hd, namesOk, if_pos rfl, HL.out] : checkI fs = if decide (200 < k) || wide fs || decide (2097152 < total fs) then 161 else 0)
      rw [ht] at hT ⊢
      obtain ⟨T, hTe⟩ : ∃ T, total fs = T := ⟨_, rfl⟩
      rw [hTe] at hT HRES ⊢
      obtain ⟨Wd, hWe⟩ : ∃ Wd, wide fs = Wd := ⟨_, rfl⟩
      rw [hWe] at HRES ⊢
      have hT1 : (T : Int) ≤ 1000000000000 := by omega
      clear ht hd hTe hWe hT
      by_cases h200 : (k : Int) > 200
      · have HR : Hid (checkI fs = 161) := (by rw [HRES.out, decide_eq_true (by omega)]; rfl : checkI fs = 161)
        go_wp2_with fail
        go_ret
        exact ⟨by rw [HR.out]; rfl, HSM.out⟩
      · rcases Wd with _ | _
        · by_cases hTT : (T : Int) > 2097152
          · have HR : Hid (checkI fs = 161) := (by rw [HRES.out, decide_eq_true (show 2097152 < T by omega)]; simp : checkI fs = 161)
            go_wp2_with fail
            go_ret
            exact ⟨by rw [HR.out]; rfl, HSM.out⟩
          · have HR : Hid (checkI fs = 0) := (by rw [HRES.out, decide_eq_false (show ¬ 2097152 < T by omega), decide_eq_false (show ¬ 200 < k by omega)]; rfl : checkI fs = 0)
            go_wp2_with fail
            go_ret
            exact ⟨by rw [HR.out]; rfl, HSM.out⟩
        · have HR : Hid (checkI fs = 161) := (by rw [HRES.out]; simp : checkI fs = 161)
          go_wp2_with fail
          go_ret
          exact ⟨by rw [HR.out]; rfl, HSM.out⟩
end Go.Proofs.YtlgonkopojancaaDoor
