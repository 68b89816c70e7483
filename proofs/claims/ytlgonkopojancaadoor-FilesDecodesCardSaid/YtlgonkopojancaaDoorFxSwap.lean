/- The walk of swapRange. -/
import Derived.Test.YtlgonkopojancaaDoorFxBR
import Derived.Test.YtlgonkopojancaaDoorFxFile
namespace Go.Proofs.YtlgonkopojancaaDoor
open Go.RowKit

/-- n exchanges -/
def swr (vs : List FV) (a b : Nat) : Nat → List FV
  | 0 => vs
  | k + 1 => swl (swr vs a b k) (a + k) (b + k)
set_option linter.unusedSimpArgs false in
set_option maxRecDepth 20000 in
set_option maxHeartbeats 4000000 in
theorem swap_any (g n cap a b k : Nat) (fv : Value) (vs : List FV) (w : World) (h : BR g n cap w vs) (ha : a + k ≤ n) (hb : b + k ≤ n) (h63 : n ≤ 1000000) :
    Calls Tryd.prog 67 #[.slice (some ⟨g, 0, none⟩) n cap, .int .i64 a, .int .i64 b, .int .i64 k, fv] w fun e w' => e = .returned (.tuple #[]) ∧ BR g n cap w' (swr vs a b k) ∧ FrG g w w' := by
  have HB := Lib.hid h; clear h
  have HA := Lib.hid (And.intro ha (And.intro hb h63))
  clear ha hb h63
  go_enter Tryd.func67, Tryd.ntmps67
  go_wp2
  go_loopw [10] (fun v10 wr => ∃ i : Nat, v10 = .int .i64 i ∧ Hid (i ≤ k) ∧ Hid (BR g n cap wr (swr vs a b i)) ∧ Hid (FrG g w wr)) (fun v10 _ => k - (intOf v10).toNat)
  case atStart => exact ⟨0, rfl, Nat.zero_le _, HB.out, Fr.refl _ _⟩
  case round =>
    obtain ⟨i, rfl, HI, HBR, HF⟩ := hrel
    by_cases hi : (i : Int) < k
    · have w1 : IntKind.i64.wrap ((a : Int) + i) = (a : Int) + i := by have := HA.out; rw [IntKind.wrap_i64]; omega
      have w2 : IntKind.i64.wrap ((b : Int) + i) = (b : Int) + i := by have := HA.out; rw [IntKind.wrap_i64]; omega
      have l1 : (a : Int) + i < n := by have := HA.out; omega
      have l2 : (b : Int) + i < n := by have := HA.out; omega
      have k6 : (k : Int) ≤ 1000000 := by have := HA.out; omega
      have p1 : (0 : Int) ≤ (a : Int) + i := by omega
      have p2 : (0 : Int) ≤ (b : Int) + i := by omega
      have t1 : ((a : Int) + i).toNat = a + i := by omega
      have t2 : ((b : Int) + i).toNat = b + i := by omega
      have HBD : Hid (BR g n cap wr.drew (swr vs a b i)) := HBR.out.same (Fr.refl _ wr).drew
      go_wp2_with fail
      refine wp_region_held_drew (S := fun _ => True) (by kernel_rfl) (by exact trivial) (fun hHeld => ?_)
      refine wpAnyH_take (i := 0) (v := ?va1) (idx_of_drop rfl) (by kernel_rfl) (by kernel_rfl) (by kernel_rfl) (fun _ _ _ h => h) (Or.inl ⟨by rfl, ?ya1⟩) (by assumption) ?ra1
      case ya1 => (intro w hSw; go_simp <;> with_reducible rfl)
      (try simp only [Act.put, List.setIfInBounds_toArray, List.set_cons_zero, List.set_cons_succ])
      refine wpAnyH_take (i := 1) (v := ?va2) (idx_of_drop rfl) (by kernel_rfl) (by kernel_rfl) (by kernel_rfl) (fun _ _ _ h => h) (Or.inl ⟨by rfl, ?ya2⟩) (by assumption) ?ra2
      case ya2 => (intro w hSw; go_simp <;> with_reducible rfl)
      (try simp only [Act.put, List.setIfInBounds_toArray, List.set_cons_zero, List.set_cons_succ])
      refine wpAnyH_take (i := 2) (v := ?va3) (idx_of_drop rfl) (by kernel_rfl) (by kernel_rfl) (by kernel_rfl) (fun _ _ _ h => h) (Or.inl ⟨by rfl, ?ya3⟩) (by assumption) ?ra3
      case ya3 => (intro w hSw; go_simp <;> with_reducible rfl)
      (try simp only [Act.put, List.setIfInBounds_toArray, List.set_cons_zero, List.set_cons_succ])
      refine wpAnyH_take (i := 3) (v := ?va4) (idx_of_drop rfl) (by kernel_rfl) (by kernel_rfl) (by kernel_rfl) (fun _ _ _ h => h) (Or.inl ⟨by rfl, ?ya4⟩) (by assumption) ?ra4
      case ya4 => (intro w hSw; go_simp <;> with_reducible rfl)
      (try simp only [Act.put, List.setIfInBounds_toArray, List.set_cons_zero, List.set_cons_succ])
      refine wpAnyH_take (i := 4) (v := ?va5) (idx_of_drop rfl) (by kernel_rfl) (by kernel_rfl) (by kernel_rfl) (fun _ _ _ h => h) (Or.inl ⟨by rfl, ?ya5⟩) (by assumption) ?ra5
      case ya5 => (intro w hSw; go_simp <;> with_reducible rfl)
      (try simp only [Act.put, List.setIfInBounds_toArray, List.set_cons_zero, List.set_cons_succ])
      refine wpAnyH_take (i := 5) (v := ?va6) (idx_of_drop rfl) (by kernel_rfl) (by kernel_rfl) (by kernel_rfl) (fun _ _ _ h => h) (Or.inl ⟨by rfl, ?ya6⟩) (by assumption) ?ra6
      case ya6 => (intro w hSw; go_simp <;> with_reducible rfl)
      (try simp only [Act.put, List.setIfInBounds_toArray, List.set_cons_zero, List.set_cons_succ])
      refine wpAnyH_take (i := 6) (v := ?va7) (idx_of_drop rfl) (by kernel_rfl) (by kernel_rfl) (by kernel_rfl) (fun _ _ _ h => h) (Or.inl ⟨by rfl, ?ya7⟩) (by assumption) ?ra7
      case ya7 => (intro w hSw; go_simp <;> with_reducible rfl)
      (try simp only [Act.put, List.setIfInBounds_toArray, List.set_cons_zero, List.set_cons_succ])
      refine wpAnyH_take (i := 7) (v := ?va8) (idx_of_drop rfl) (by kernel_rfl) (by kernel_rfl) (by kernel_rfl) (fun _ _ _ h => h) (Or.inl ⟨by rfl, ?ya8⟩) (by assumption) ?ra8
      case ya8 => (intro w hSw; go_simp <;> with_reducible rfl)
      (try simp only [Act.put, List.setIfInBounds_toArray, List.set_cons_zero, List.set_cons_succ])
      refine wpAnyH_take (i := 8) (v := ?va9) (idx_of_drop rfl) (by kernel_rfl) (by kernel_rfl) (by kernel_rfl) (fun _ _ _ h => h) (Or.inl ⟨by rfl, ?ya9⟩) (by assumption) ?ra9
      case ya9 => (intro w hSw; go_simp <;> with_reducible rfl)
      (try simp only [Act.put, List.setIfInBounds_toArray, List.set_cons_zero, List.set_cons_succ])
      refine wpAnyH_take (i := 9) (v := ?va10) (idx_of_drop rfl) (by kernel_rfl) (by kernel_rfl) (by kernel_rfl) (fun _ _ _ h => h) (Or.inl ⟨by rfl, ?ya10⟩) (by assumption) ?ra10
      case ya10 => (intro w hSw; go_simp <;> with_reducible rfl)
      (try simp only [Act.put, List.setIfInBounds_toArray, List.set_cons_zero, List.set_cons_succ])
      refine wpAnyH_take (i := 10) (v := ?va11) (idx_of_drop rfl) (by kernel_rfl) (by kernel_rfl) (by kernel_rfl) (fun _ _ _ h => h) (Or.inl ⟨by rfl, ?ya11⟩) (by assumption) ?ra11
      case ya11 => (intro w hSw; go_simp <;> with_reducible rfl)
      (try simp only [Act.put, List.setIfInBounds_toArray, List.set_cons_zero, List.set_cons_succ])
      refine wpAnyH_take (i := 11) (v := ?va12) (idx_of_drop rfl) (by kernel_rfl) (by kernel_rfl) (by kernel_rfl) (fun _ _ _ h => h) (Or.inl ⟨by rfl, ?ya12⟩) (by assumption) ?ra12
      case ya12 => (intro w hSw; go_simp <;> with_reducible rfl)
      (try simp only [Act.put, List.setIfInBounds_toArray, List.set_cons_zero, List.set_cons_succ])
      refine wpAnyH_take (i := 12) (v := ?va13) (idx_of_drop rfl) (by kernel_rfl) (by kernel_rfl) (by kernel_rfl) (fun _ _ _ h => h) (Or.inl ⟨by rfl, ?ya13⟩) (by assumption) ?ra13
      case ya13 => (intro w hSw; go_simp <;> with_reducible rfl)
      (try simp only [Act.put, List.setIfInBounds_toArray, List.set_cons_zero, List.set_cons_succ])
      refine wpAnyH_take (i := 14) (v := ?va14) (idx_of_drop rfl) (by kernel_rfl) (by kernel_rfl) (by kernel_rfl) (fun _ _ _ h => h) (Or.inl ⟨by rfl, ?ya14⟩) (by assumption) ?ra14
      case ya14 => (intro w hSw; go_simp <;> with_reducible rfl)
      (try simp only [Act.put, List.setIfInBounds_toArray, List.set_cons_zero, List.set_cons_succ])
      refine wpAnyH_take (i := 15) (v := ?va15) (idx_of_drop rfl) (by kernel_rfl) (by kernel_rfl) (by kernel_rfl) (fun _ _ _ h => h) (Or.inl ⟨by rfl, ?ya15⟩) (by assumption) ?ra15
      case ya15 => (intro w hSw; go_simp <;> with_reducible rfl)
      (try simp only [Act.put, List.setIfInBounds_toArray, List.set_cons_zero, List.set_cons_succ])
      refine wpAnyH_take (i := 16) (v := ?va16) (idx_of_drop rfl) (by kernel_rfl) (by kernel_rfl) (by kernel_rfl) (fun _ _ _ h => h) (Or.inl ⟨by rfl, ?ya16⟩) (by assumption) ?ra16
      case ya16 => (intro w hSw; go_simp <;> with_reducible rfl)
      (try simp only [Act.put, List.setIfInBounds_toArray, List.set_cons_zero, List.set_cons_succ])
      refine wpAnyH_take (i := 17) (v := ?va17) (idx_of_drop rfl) (by kernel_rfl) (by kernel_rfl) (by kernel_rfl) (fun _ _ _ h => h) (Or.inl ⟨by rfl, ?ya17⟩) (by assumption) ?ra17
      case ya17 => (intro w hSw; go_simp <;> with_reducible rfl)
      (try simp only [Act.put, List.setIfInBounds_toArray, List.set_cons_zero, List.set_cons_succ])
      refine wpAnyH_take (i := 18) (v := ?va18) (idx_of_drop rfl) (by kernel_rfl) (by kernel_rfl) (by kernel_rfl) (fun _ _ _ h => h) (Or.inl ⟨by rfl, ?ya18⟩) (by assumption) ?ra18
      case ya18 => (intro w hSw; go_simp <;> with_reducible rfl)
      (try simp only [Act.put, List.setIfInBounds_toArray, List.set_cons_zero, List.set_cons_succ])
      refine wpAnyH_ready (rs := [13, 19]) (by kernel_rfl) (by simp) ?_
      refine AllReadyH.cons (idx_of_drop rfl) (fun K hK => ?sa19) ?ma19
      case sa19 =>
        rw [if_pos (by rfl)]
        refine wp_load_mid 33 (.tmp 28) rfl g _ (by rfl) _ _ (HBD.out.range (j := b + i) (by have := HA.out; omega)).1 Tryd.underlying33 rfl info33s ?_
        refine hK.out _ _ (by exact trivial) (fun hHeld => ?_)
        clear hK K
        (try simp only [Act.put, List.setIfInBounds_toArray, List.set_cons_zero, List.set_cons_succ])
        refine wpAnyH_ready (rs := [19]) (by kernel_rfl) (by simp) ?_
        refine AllReadyH.cons (idx_of_drop rfl) (fun K hK => ?sa20) ?ma20
        case sa20 =>
          rw [if_pos (by rfl)]
          refine wp_load_mid 33 (.tmp 34) rfl g _ (by rfl) _ _ (HBD.out.range (j := a + i) (by have := HA.out; omega)).1 Tryd.underlying33 rfl info33s ?_
          refine hK.out _ _ (by exact trivial) (fun hHeld => ?_)
          clear hK K
          (try simp only [Act.put, List.setIfInBounds_toArray, List.set_cons_zero, List.set_cons_succ])
          refine wpAnyH_take (i := 20) (v := ?va21) (idx_of_drop rfl) (by kernel_rfl) (by kernel_rfl) (by kernel_rfl) (fun _ _ _ h => h) (Or.inl ⟨by rfl, ?ya21⟩) (by assumption) ?ra21
          case ya21 => (intro w hSw; go_simp <;> with_reducible rfl)
          (try simp only [Act.put, List.setIfInBounds_toArray, List.set_cons_zero, List.set_cons_succ])
          refine wpAnyH_ready (rs := [21]) (by kernel_rfl) (by simp) ?_
          refine AllReadyH.cons (idx_of_drop rfl) (fun K hK => ?sa22) ?ma22
          case sa22 =>
            rw [if_pos (by rfl)]
            refine wp_store_mid 33 (.tmp 36) (.tmp 29) rfl g ((a + i) * 4) ((swr vs a b i).getD (b + i) default).cells.toArray (by rfl) (by rfl) (HBD.out.range (j := a + i) (by have := HA.out; omega)).2 info33s (all_oneCell_toArray (one4 _)) ?_
            refine hK.out _ _ (by exact trivial) (fun hHeld => ?_)
            clear hK K
            (try simp only [Act.put, List.setIfInBounds_toArray, List.set_cons_zero, List.set_cons_succ])
            refine wpAnyH_take (i := 22) (v := ?va23) (idx_of_drop rfl) (by kernel_rfl) (by kernel_rfl) (by kernel_rfl) (fun _ _ _ h => h) (Or.inl ⟨by rfl, ?ya23⟩) (by assumption) ?ra23
            case ya23 => (intro w hSw; go_simp <;> with_reducible rfl)
            (try simp only [Act.put, List.setIfInBounds_toArray, List.set_cons_zero, List.set_cons_succ])
            refine wpAnyH_ready (rs := [23]) (by kernel_rfl) (by simp) ?_
            refine AllReadyH.cons (idx_of_drop rfl) (fun K hK => ?sa24) ?ma24
            case sa24 =>
              rw [if_pos (by rfl)]
              refine wp_store_mid 33 (.tmp 37) (.tmp 35) rfl g ((b + i) * 4) ((swr vs a b i).getD (a + i) default).cells.toArray (by rfl) (by rfl) ((HBD.out.put (j := a + i) (by have := HA.out; omega) ((swr vs a b i).getD (b + i) default)).range (j := b + i) (by have := HA.out; omega)).2 info33s (all_oneCell_toArray (one4 _)) ?_
              refine hK.out _ _ (by exact trivial) (fun hHeld => ?_)
              clear hK K
              (try simp only [Act.put, List.setIfInBounds_toArray, List.set_cons_zero, List.set_cons_succ])
              refine wpAnyH_done (by kernel_rfl) ?_ _
              rename_i hH; clear hH
              go_wp2_with fail
              go_roundw
              case rel => exact ⟨i + 1, by go_num, (by omega : i + 1 ≤ k), HBD.out.swap (i := a + i) (j := b + i) (by have := HA.out; omega) (by have := HA.out; omega), frg_setCells _ _ _ _ (frg_setCells _ _ _ _ HF.out.drew)⟩
              case measure => simp [intOf]; omega
            exact AllReadyH.nil
          exact AllReadyH.nil
        exact AllReadyH.nil
      refine AllReadyH.cons (idx_of_drop rfl) (fun K hK => ?sa25) ?ma25
      case sa25 =>
        rw [if_pos (by rfl)]
        refine wp_load_mid 33 (.tmp 34) rfl g _ (by rfl) _ _ (HBD.out.range (j := a + i) (by have := HA.out; omega)).1 Tryd.underlying33 rfl info33s ?_
        refine hK.out _ _ (by exact trivial) (fun hHeld => ?_)
        clear hK K
        (try simp only [Act.put, List.setIfInBounds_toArray, List.set_cons_zero, List.set_cons_succ])
        refine wpAnyH_ready (rs := [13]) (by kernel_rfl) (by simp) ?_
        refine AllReadyH.cons (idx_of_drop rfl) (fun K hK => ?sa26) ?ma26
        case sa26 =>
          rw [if_pos (by rfl)]
          refine wp_load_mid 33 (.tmp 28) rfl g _ (by rfl) _ _ (HBD.out.range (j := b + i) (by have := HA.out; omega)).1 Tryd.underlying33 rfl info33s ?_
          refine hK.out _ _ (by exact trivial) (fun hHeld => ?_)
          clear hK K
          (try simp only [Act.put, List.setIfInBounds_toArray, List.set_cons_zero, List.set_cons_succ])
          refine wpAnyH_take (i := 20) (v := ?va27) (idx_of_drop rfl) (by kernel_rfl) (by kernel_rfl) (by kernel_rfl) (fun _ _ _ h => h) (Or.inl ⟨by rfl, ?ya27⟩) (by assumption) ?ra27
          case ya27 => (intro w hSw; go_simp <;> with_reducible rfl)
          (try simp only [Act.put, List.setIfInBounds_toArray, List.set_cons_zero, List.set_cons_succ])
          refine wpAnyH_ready (rs := [21]) (by kernel_rfl) (by simp) ?_
          refine AllReadyH.cons (idx_of_drop rfl) (fun K hK => ?sa28) ?ma28
          case sa28 =>
            rw [if_pos (by rfl)]
            refine wp_store_mid 33 (.tmp 36) (.tmp 29) rfl g ((a + i) * 4) ((swr vs a b i).getD (b + i) default).cells.toArray (by rfl) (by rfl) (HBD.out.range (j := a + i) (by have := HA.out; omega)).2 info33s (all_oneCell_toArray (one4 _)) ?_
            refine hK.out _ _ (by exact trivial) (fun hHeld => ?_)
            clear hK K
            (try simp only [Act.put, List.setIfInBounds_toArray, List.set_cons_zero, List.set_cons_succ])
            refine wpAnyH_take (i := 22) (v := ?va29) (idx_of_drop rfl) (by kernel_rfl) (by kernel_rfl) (by kernel_rfl) (fun _ _ _ h => h) (Or.inl ⟨by rfl, ?ya29⟩) (by assumption) ?ra29
            case ya29 => (intro w hSw; go_simp <;> with_reducible rfl)
            (try simp only [Act.put, List.setIfInBounds_toArray, List.set_cons_zero, List.set_cons_succ])
            refine wpAnyH_ready (rs := [23]) (by kernel_rfl) (by simp) ?_
            refine AllReadyH.cons (idx_of_drop rfl) (fun K hK => ?sa30) ?ma30
            case sa30 =>
              rw [if_pos (by rfl)]
              refine wp_store_mid 33 (.tmp 37) (.tmp 35) rfl g ((b + i) * 4) ((swr vs a b i).getD (a + i) default).cells.toArray (by rfl) (by rfl) ((HBD.out.put (j := a + i) (by have := HA.out; omega) ((swr vs a b i).getD (b + i) default)).range (j := b + i) (by have := HA.out; omega)).2 info33s (all_oneCell_toArray (one4 _)) ?_
              refine hK.out _ _ (by exact trivial) (fun hHeld => ?_)
              clear hK K
              (try simp only [Act.put, List.setIfInBounds_toArray, List.set_cons_zero, List.set_cons_succ])
              refine wpAnyH_done (by kernel_rfl) ?_ _
              rename_i hH; clear hH
              go_wp2_with fail
              go_roundw
              case rel => exact ⟨i + 1, by go_num, (by omega : i + 1 ≤ k), HBD.out.swap (i := a + i) (j := b + i) (by have := HA.out; omega) (by have := HA.out; omega), frg_setCells _ _ _ _ (frg_setCells _ _ _ _ HF.out.drew)⟩
              case measure => simp [intOf]; omega
            exact AllReadyH.nil
          exact AllReadyH.nil
        exact AllReadyH.nil
      exact AllReadyH.nil
    · have hik : i = k := by have := HI.out; omega
      subst hik
      go_wp2
      go_end0
      exact ⟨rfl, HBR.out, HF.out⟩
end Go.Proofs.YtlgonkopojancaaDoor
