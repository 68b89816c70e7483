/- The reference's List. -/
import Derived.Test.YtlgonkopojancaaDoorFxWpApp

namespace Go.Proofs.YtlgonkopojancaaDoor
open Go.RowKit

set_option maxRecDepth 20000 in
set_option maxHeartbeats 2000000 in
theorem rlist_any (fs : List Fi) (A : Option Addr) (n c : Nat) (w : World) (hf : FRd w A n fs) (hn : n ≤ 1000000) :
    Calls Tryd.prog 19 #[.slice A n c] w fun e w' => ∃ v, e = .returned v ∧ w'.ownsRow 0 33 4 v n (flat (fs.map bareV)) ∧ From w.heap.size v ∧ Below w.heap.size w w' := by
  have HF := Lib.hid hf; clear hf
  have HL : Hid (fs.length = n) := HF.out.1
  go_enter Tryd.func19, Tryd.ntmps19
  go_wp2_with fail
  go_loopw [3, 4] (fun v3 v4 wr => ∃ k : Nat, v4 = .int .i64 k ∧ (k : Int) ≤ n ∧ Hid (wr.ownsRow 0 33 4 v3 k (flat ((fs.take k).map bareV))) ∧ Hid (From w.heap.size v3) ∧ Hid (Below w.heap.size w wr)) (fun _ v4 _ => n - (intOf v4).toNat)
  case atStart => exact ⟨0, rfl, by omega, World.ownsRow_nil _ _ _ _, From.none _ _ _, Below.refl _ _⟩
  case round =>
    obtain ⟨k, rfl, hkn, HO, HV, HB⟩ := hrel
    by_cases hk : (k : Int) < n
    · obtain ⟨b, o, A1, n1, c1, rfl, hr1, hl1⟩ := HF.out.load (j := k) (by omega)
      obtain ⟨f, hfe⟩ : ∃ f, fs.getD k default = f := ⟨_, rfl⟩
      rw [hfe] at hl1
      have HFE := Lib.hid hfe; have HL1 := Lib.hid hl1
      have HLT : Hid (VRd (wr.drew.alloc (.cells (bareV f).cells.toArray 33)) (some ⟨wr.drew.heap.size, 0, none⟩) 1 [bareV f]) := vrd_lit _ _
      have HSM : Hid (Same wr (wr.drew.alloc (.cells (bareV f).cells.toArray 33))) := (Fr.refl _ wr).drew.alloc _
      clear hr1 hl1 hfe
      go_wp2_with fail
      refine wp_region_held_drew (S := fun w' => Below w.heap.size w w') (by kernel_rfl) (by exact HB.out.trans ((below_fr (Fr.refl _ wr).drew).mono HB.out.size)) (fun hHeld => ?_)
      refine wpAnyH_take (i := 0) (v := ?vl1) (idx_of_drop rfl) (by kernel_rfl) (by kernel_rfl) (by kernel_rfl) (fun _ _ _ h => h) (Or.inl ⟨by rfl, ?yl1⟩) (by assumption) ?rl1
      case yl1 => (intro ww hSw; obtain ⟨q0, q1, q2, q3⟩ := HL1.out ww hSw; go_simp <;> with_reducible rfl)
      (try simp only [Act.put, List.setIfInBounds_toArray, List.set_cons_zero, List.set_cons_succ])
      refine wpAnyH_take (i := 1) (v := ?vl2) (idx_of_drop rfl) (by kernel_rfl) (by kernel_rfl) (by kernel_rfl) (fun _ _ _ h => h) (Or.inl ⟨by rfl, ?yl2⟩) (by assumption) ?rl2
      case yl2 => (intro ww hSw; obtain ⟨q0, q1, q2, q3⟩ := HL1.out ww hSw; go_simp <;> with_reducible rfl)
      (try simp only [Act.put, List.setIfInBounds_toArray, List.set_cons_zero, List.set_cons_succ])
      refine wpAnyH_take (i := 2) (v := ?vl3) (idx_of_drop rfl) (by kernel_rfl) (by kernel_rfl) (by kernel_rfl) (fun _ _ _ h => h) (Or.inl ⟨by rfl, ?yl3⟩) (by assumption) ?rl3
      case yl3 => (intro ww hSw; obtain ⟨q0, q1, q2, q3⟩ := HL1.out ww hSw; go_simp <;> with_reducible rfl)
      (try simp only [Act.put, List.setIfInBounds_toArray, List.set_cons_zero, List.set_cons_succ])
      refine wpAnyH_take (i := 3) (v := ?vl4) (idx_of_drop rfl) (by kernel_rfl) (by kernel_rfl) (by kernel_rfl) (fun _ _ _ h => h) (Or.inl ⟨by rfl, ?yl4⟩) (by assumption) ?rl4
      case yl4 => (intro ww hSw; obtain ⟨q0, q1, q2, q3⟩ := HL1.out ww hSw; go_simp <;> with_reducible rfl)
      (try simp only [Act.put, List.setIfInBounds_toArray, List.set_cons_zero, List.set_cons_succ])
      refine wpAnyH_take (i := 4) (v := ?vl5) (idx_of_drop rfl) (by kernel_rfl) (by kernel_rfl) (by kernel_rfl) (fun _ _ _ h => h) (Or.inl ⟨by rfl, ?yl5⟩) (by assumption) ?rl5
      case yl5 => (intro ww hSw; obtain ⟨q0, q1, q2, q3⟩ := HL1.out ww hSw; go_simp <;> with_reducible rfl)
      (try simp only [Act.put, List.setIfInBounds_toArray, List.set_cons_zero, List.set_cons_succ])
      refine wpAnyH_take (i := 5) (v := ?vl6) (idx_of_drop rfl) (by kernel_rfl) (by kernel_rfl) (by kernel_rfl) (fun _ _ _ h => h) (Or.inl ⟨by rfl, ?yl6⟩) (by assumption) ?rl6
      case yl6 => (intro ww hSw; obtain ⟨q0, q1, q2, q3⟩ := HL1.out ww hSw; go_simp <;> with_reducible rfl)
      (try simp only [Act.put, List.setIfInBounds_toArray, List.set_cons_zero, List.set_cons_succ])
      refine wpAnyH_take (i := 6) (v := ?vl7) (idx_of_drop rfl) (by kernel_rfl) (by kernel_rfl) (by kernel_rfl) (fun _ _ _ h => h) (Or.inl ⟨by rfl, ?yl7⟩) (by assumption) ?rl7
      case yl7 => (intro ww hSw; obtain ⟨q0, q1, q2, q3⟩ := HL1.out ww hSw; go_simp <;> with_reducible rfl)
      (try simp only [Act.put, List.setIfInBounds_toArray, List.set_cons_zero, List.set_cons_succ])
      refine wpAnyH_take (i := 7) (v := ?vl8) (idx_of_drop rfl) (by kernel_rfl) (by kernel_rfl) (by kernel_rfl) (fun _ _ _ h => h) (Or.inl ⟨by rfl, ?yl8⟩) (by assumption) ?rl8
      case yl8 => (intro ww hSw; obtain ⟨q0, q1, q2, q3⟩ := HL1.out ww hSw; go_simp <;> with_reducible rfl)
      (try simp only [Act.put, List.setIfInBounds_toArray, List.set_cons_zero, List.set_cons_succ])
      refine wpAnyH_take (i := 8) (v := ?vl9) (idx_of_drop rfl) (by kernel_rfl) (by kernel_rfl) (by kernel_rfl) (fun _ _ _ h => h) (Or.inl ⟨by rfl, ?yl9⟩) (by assumption) ?rl9
      case yl9 => (intro ww hSw; obtain ⟨q0, q1, q2, q3⟩ := HL1.out ww hSw; go_simp <;> with_reducible rfl)
      (try simp only [Act.put, List.setIfInBounds_toArray, List.set_cons_zero, List.set_cons_succ])
      refine wpAnyH_take (i := 9) (v := ?vl10) (idx_of_drop rfl) (by kernel_rfl) (by kernel_rfl) (by kernel_rfl) (fun _ _ _ h => h) (Or.inl ⟨by rfl, ?yl10⟩) (by assumption) ?rl10
      case yl10 => (intro ww hSw; obtain ⟨q0, q1, q2, q3⟩ := HL1.out ww hSw; go_simp <;> with_reducible rfl)
      (try simp only [Act.put, List.setIfInBounds_toArray, List.set_cons_zero, List.set_cons_succ])
      refine wpAnyH_take (i := 10) (v := ?vl11) (idx_of_drop rfl) (by kernel_rfl) (by kernel_rfl) (by kernel_rfl) (fun _ _ _ h => h) (Or.inl ⟨by rfl, ?yl11⟩) (by assumption) ?rl11
      case yl11 => (intro ww hSw; obtain ⟨q0, q1, q2, q3⟩ := HL1.out ww hSw; go_simp <;> with_reducible rfl)
      (try simp only [Act.put, List.setIfInBounds_toArray, List.set_cons_zero, List.set_cons_succ])
      refine wpAnyH_take (i := 11) (v := ?vl12) (idx_of_drop rfl) (by kernel_rfl) (by kernel_rfl) (by kernel_rfl) (fun _ _ _ h => h) (Or.inl ⟨by rfl, ?yl12⟩) (by assumption) ?rl12
      case yl12 => (intro ww hSw; obtain ⟨q0, q1, q2, q3⟩ := HL1.out ww hSw; go_simp <;> with_reducible rfl)
      (try simp only [Act.put, List.setIfInBounds_toArray, List.set_cons_zero, List.set_cons_succ])
      refine wpAnyH_take (i := 12) (v := ?vl13) (idx_of_drop rfl) (by kernel_rfl) (by kernel_rfl) (by kernel_rfl) (fun _ _ _ h => h) (Or.inl ⟨by rfl, ?yl13⟩) (by assumption) ?rl13
      case yl13 => (intro ww hSw; obtain ⟨q0, q1, q2, q3⟩ := HL1.out ww hSw; go_simp <;> with_reducible rfl)
      (try simp only [Act.put, List.setIfInBounds_toArray, List.set_cons_zero, List.set_cons_succ])
      refine wpAnyH_take (i := 13) (v := ?vl14) (idx_of_drop rfl) (by kernel_rfl) (by kernel_rfl) (by kernel_rfl) (fun _ _ _ h => h) (Or.inl ⟨by rfl, ?yl14⟩) (by assumption) ?rl14
      case yl14 => (intro ww hSw; obtain ⟨q0, q1, q2, q3⟩ := HL1.out ww hSw; go_simp <;> with_reducible rfl)
      (try simp only [Act.put, List.setIfInBounds_toArray, List.set_cons_zero, List.set_cons_succ])
      refine wpAnyH_take (i := 14) (v := ?vl15) (idx_of_drop rfl) (by kernel_rfl) (by kernel_rfl) (by kernel_rfl) (fun _ _ _ h => h) (Or.inl ⟨by rfl, ?yl15⟩) (by assumption) ?rl15
      case yl15 => (intro ww hSw; obtain ⟨q0, q1, q2, q3⟩ := HL1.out ww hSw; go_simp <;> with_reducible rfl)
      (try simp only [Act.put, List.setIfInBounds_toArray, List.set_cons_zero, List.set_cons_succ])
      refine wpAnyH_take (i := 15) (v := ?vl16) (idx_of_drop rfl) (by kernel_rfl) (by kernel_rfl) (by kernel_rfl) (fun _ _ _ h => h) (Or.inl ⟨by rfl, ?yl16⟩) (by assumption) ?rl16
      case yl16 => (intro ww hSw; obtain ⟨q0, q1, q2, q3⟩ := HL1.out ww hSw; go_simp <;> with_reducible rfl)
      (try simp only [Act.put, List.setIfInBounds_toArray, List.set_cons_zero, List.set_cons_succ])
      refine wpAnyH_take (i := 16) (v := ?vl17) (idx_of_drop rfl) (by kernel_rfl) (by kernel_rfl) (by kernel_rfl) (fun _ _ _ h => h) (Or.inl ⟨by rfl, ?yl17⟩) (by assumption) ?rl17
      case yl17 => (intro ww hSw; obtain ⟨q0, q1, q2, q3⟩ := HL1.out ww hSw; go_simp <;> with_reducible rfl)
      (try simp only [Act.put, List.setIfInBounds_toArray, List.set_cons_zero, List.set_cons_succ])
      refine wpAnyH_ready (rs := [17]) (by kernel_rfl) (by simp) ?_
      refine AllReadyH.cons (idx_of_drop rfl) (fun K hK => ?sl18) ?ml18
      case sl18 =>
        go_simp
        refine hK.out _ _ (by exact HB.out.trans ((below_fr HSM.out).mono HB.out.size)) (fun hHeld => ?_)
        clear hK K
        (try simp only [Act.put, List.setIfInBounds_toArray, List.set_cons_zero, List.set_cons_succ])
        refine wpAnyH_ready (rs := [18]) (by kernel_rfl) (by simp) ?_
        refine AllReadyH.cons (idx_of_drop rfl) (fun K hK => ?sl19) ?ml19
        case sl19 =>
          rw [if_pos (by rfl)]
          refine wp_app_rows (.tmp 11) (.tmp 28) rfl _ k 1 1 _ (flat ((fs.take k).map bareV)) [bareV f] (by rfl) (by rfl) (HSM.out.own HO.out (fun _ _ e => e)) HLT.out (by omega) ?_
          intro v4 w4 ho hg
          have hg2 := Grew.pre HSM.out hg
          have HO4 := Lib.hid ho; have HV4 := Lib.hid (HV.out.grew hg2 HB.out.size); have HB4 := Lib.hid (HB.out.trans (hg2.below HV.out HB.out.size))
          clear ho hg hg2
          refine hK.out _ _ (by exact HB4.out) (fun hHeld => ?_)
          clear hK K
          (try simp only [Act.put, List.setIfInBounds_toArray, List.set_cons_zero, List.set_cons_succ])
          refine wpAnyH_take (i := 19) (v := ?vl20) (idx_of_drop rfl) (by kernel_rfl) (by kernel_rfl) (by kernel_rfl) (fun _ _ _ h => h) (Or.inl ⟨by rfl, ?yl20⟩) (by assumption) ?rl20
          case yl20 => (intro ww hSw; obtain ⟨q0, q1, q2, q3⟩ := HL1.out ww hSw; go_simp <;> with_reducible rfl)
          (try simp only [Act.put, List.setIfInBounds_toArray, List.set_cons_zero, List.set_cons_succ])
          refine wpAnyH_done (by kernel_rfl) ?_ _
          rename_i hH; clear hH
          have ht : fs.take (k + 1) = fs.take k ++ [f] := by
            have hkl : k < fs.length := by have := HL.out; omega
            have := HFE.out
            rw [List.getD_eq_getElem?_getD, List.getElem?_eq_getElem hkl, Option.getD_some] at this
            rw [List.take_succ_eq_append_getElem hkl, this]
          have HT := Lib.hid ht; clear ht
          go_wp2_with fail
          go_roundw
          case rel =>
            refine ⟨k + 1, by go_num, by omega, ?_, HV4.out, HB4.out⟩
            show World.ownsRow _ _ _ _ _ _ _
            rw [HT.out, List.map_append, flat_append]
            exact HO4.out
          case measure => simp [intOf]; omega
        exact AllReadyH.nil
      exact AllReadyH.nil
    · have hkn2 : k = n := by omega
      subst hkn2
      have ht : fs.take k = fs := List.take_of_length_le (by have := HL.out; omega)
      rw [ht] at HO
      go_wp2_with fail
      go_ret
      exact ⟨_, rfl, HO.out, HV.out, HB.out⟩
end Go.Proofs.YtlgonkopojancaaDoor
