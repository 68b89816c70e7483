/- The walk of symMerge: one element behind. -/
import Derived.Test.YtlgonkopojancaaDoorFxSymA
namespace Go.Proofs.YtlgonkopojancaaDoor
open Go.RowKit

/-- where the search for the place stands -/
def Find2 (V : List FV) (y : FV) (a m i j : Nat) : Prop := a ≤ i ∧ i ≤ j ∧ j ≤ m ∧ (i = a ∨ lt y (V.getD (i - 1) default) = false) ∧ (j = m ∨ lt y (V.getD j default) = true)
theorem swl_comm {V : List FV} {i j : Nat} (h : i ≠ j) : swl V i j = swl V j i := by
  unfold swl
  rw [List.set_comm _ _ h]
theorem sw_back {L X R : List FV} {y : FV} {a t : Nat} (ha : L.length = a) (ht : t < X.length) : swl (L ++ X.take (t + 1) ++ y :: X.drop (t + 1) ++ R) (a + t + 1) (a + t) = L ++ X.take t ++ y :: X.drop t ++ R := by
  have hl : (L ++ X.take t).length = a + t := by rw [List.length_append, List.length_take]; omega
  have hd : X.drop t = X[t] :: X.drop (t + 1) := List.drop_eq_getElem_cons ht
  have e : L ++ X.take (t + 1) ++ y :: X.drop (t + 1) ++ R = (L ++ X.take t) ++ X[t] :: ([] ++ y :: (X.drop (t + 1) ++ R)) := by
    rw [List.take_succ_eq_append_getElem ht]
    simp only [List.append_assoc, List.cons_append, List.nil_append]
  rw [swl_comm (by omega), e, swl_app hl (by simp), hd]
  simp only [List.append_assoc, List.cons_append, List.nil_append]
theorem getX {L X : List FV} {Z : List FV} {a j : Nat} (ha : L.length = a) (hj : j < X.length) : (L ++ X ++ Z).getD (a + j) default = X[j] := by
  rw [List.getD_eq_getElem?_getD, List.append_assoc, List.getElem?_append_right (by omega), show a + j - L.length = j by omega, List.getElem?_append_left hj, List.getElem?_eq_getElem hj]
  rfl
theorem find2_end {L X Z : List FV} {y : FV} {a m i s : Nat} (ha : L.length = a) (hm : a + X.length = m) (hs : Srt FV.key X) (h : Find2 (L ++ X ++ Z) y a m i i) (hse : i - a = s) : StableOf FV.key (X ++ [y]) (X.take s ++ y :: X.drop s) := by
  obtain ⟨h1, _, h3, h4, h5⟩ := h
  have hsl : s ≤ X.length := by omega
  have hsp : X = X.take s ++ X.drop s := (List.take_append_drop s X).symm
  have hs' : Srt FV.key (X.take s ++ X.drop s) := by rw [← hsp]; exact hs
  have hy : Srt FV.key [y] := List.pairwise_singleton _ _
  have hleq : Leq FV.key (X.take s) [y] := by
    refine leq_of FV.key (srt_left FV.key hs') hy ?_
    rcases Nat.eq_zero_or_pos s with h0 | h0
    · left; rw [h0]; rfl
    · refine .inr (.inr ⟨X[s - 1]'(by omega), y, X.take (s - 1), [], ?_, rfl, ?_⟩)
      · have := List.take_succ_eq_append_getElem (l := X) (i := s - 1) (by omega)
        rw [show s - 1 + 1 = s by omega] at this
        exact this
      · have := h4.resolve_left (by omega)
        rw [show i - 1 = a + (s - 1) by omega, getX ha (by omega)] at this
        exact this
  have hlss : Lss FV.key [y] (X.drop s) := by
    refine lss_of FV.key hy (srt_right FV.key hs') ?_
    by_cases h0 : s = X.length
    · exact .inr (.inl (List.drop_of_length_le (by omega)))
    · refine .inr (.inr ⟨y, X[s]'(by omega), [], X.drop (s + 1), rfl, List.drop_eq_getElem_cons (by omega), ?_⟩)
      have := h5.resolve_left (by omega)
      rw [show i = a + s by omega, getX ha (by omega)] at this
      exact this
  have h1' : StableOf FV.key (X.take s ++ [y]) (X.take s ++ [y]) := stable_srt FV.key (srt_app FV.key (srt_left FV.key hs') hy hleq)
  have h2' : StableOf FV.key (X.drop s ++ []) (X.drop s) := by rw [List.append_nil]; exact stable_srt FV.key (srt_right FV.key hs')
  have := stable_parts FV.key (X1 := X.take s) (X2 := X.drop s) (Y1 := [y]) (Y2 := []) hs' hy hlss (fun _ _ _ h => by simp at h) h1' h2'
  rw [List.take_append_drop] at this
  simpa using this

set_option linter.unusedSimpArgs false in
set_option maxRecDepth 100000 in
set_option maxHeartbeats 8000000 in
theorem sym_last (g n cap a m b : Nat) (y : FV) (L X R : List FV) (w : World) (h : BR g n cap w (L ++ X ++ [y] ++ R)) (h63 : n ≤ 1000000) (hX : 1 < X.length) (ha : L.length = a) (hm : a + X.length = m) (hb : m + 1 = b) (hs : Srt FV.key X) :
    Calls Tryd.prog 58 #[.slice (some ⟨g, 0, none⟩) n cap, .int .i64 a, .int .i64 m, .int .i64 b, cmpV] w (SymPost g n cap L X [y] R w) := by
  have hl := h.len
  simp only [List.length_append, List.length_singleton] at hl
  obtain ⟨V, hV⟩ : ∃ V, L ++ X ++ ([y] ++ R) = V := ⟨_, rfl⟩
  have hxa : V.getD m default = y := by rw [← hV]; exact getD_app (by simp; omega)
  rw [List.append_assoc, hV] at h
  have e35 := enters35
  have HB := Lib.hid h; have HL := Lib.hid (And.intro hl (And.intro h63 (And.intro hX (And.intro ha (And.intro hm hb))))); have HV := Lib.hid hV; have HS := Lib.hid hs; have HXA := Lib.hid hxa
  have i1 : (b : Int) - (m : Int) = 1 := by omega
  have i1b : (((b : Int) - (m : Int)) == 1) = true := by rw [i1]; rfl
  have i1c : (((m : Int) - (a : Int)) == 1) = false := by rw [beq_eq_false_iff_ne]; omega
  have I1 := Lib.hid i1
  have i2 : (m : Int) < b := by omega
  have i3 : (b : Int) ≤ 1000000 := by omega
  have i4 : (a : Int) < m := by omega
  have i5 : (b : Int) ≤ n := by omega
  clear h hl h63 hX ha hm hb hV hs hxa i1
  unfold cmpV
  go_enter Tryd.func58, Tryd.ntmps58
  go_wp2_with fail
  go_loopw [14, 15, 16] (fun v10 v11 _ wr => ∃ i j : Nat, v10 = .int .i64 i ∧ v11 = .int .i64 j ∧ Hid (Find2 V y a m i j) ∧ Hid (BR g n cap wr V) ∧ Hid (FrG g w wr)) (fun v10 v11 _ _ => (intOf v11).toNat - (intOf v10).toNat)
  case atStart => exact ⟨a, m, rfl, rfl, ⟨Nat.le_refl _, by omega, Nat.le_refl _, .inl rfl, .inl rfl⟩, HB.out, Fr.refl _ _⟩
  case round =>
    obtain ⟨i, j, rfl, rfl, HI, HBR, HF⟩ := hrel
    have q1 : (i : Int) ≤ j := by have := HI.out; unfold Find2 at this; omega
    have q2 : (j : Int) ≤ m := by have := HI.out; unfold Find2 at this; omega
    have q3 : (a : Int) ≤ i := by have := HI.out; unfold Find2 at this; omega
    by_cases hij : (i : Int) < j
    · obtain ⟨p, hp⟩ : ∃ p, (i + j) / 2 = p := ⟨_, rfl⟩
      have p1 : ((i : Int) + (j : Int)) / 2 = (p : Int) := by omega
      have p2 : (p : Int) < j := by omega
      have p3 : (i : Int) ≤ p := by omega
      have p4 : (p : Int) < n := by omega
      have p5 : (m : Int) < n := by omega
      have P0 := Lib.hid hp; clear hp
      have HS0 := Lib.hid (range2 (p := m) (q := p) HBR.out (by omega) (by omega))
      by_cases hlt : lt y (V.getD p default) = true
      · have HC : Hid (cmpI (V.getD m default).f.name (V.getD p default).f.name = -1) := (by rw [HXA.out]; exact cmp_neg hlt : cmpI (V.getD m default).f.name (V.getD p default).f.name = -1)
        have HF1 : Hid (Find2 V y a m i p) := (by
          obtain ⟨h1, h2, h3, h4, h5⟩ := HI.out
          exact ⟨h1, by omega, by omega, h4, .inr hlt⟩ : Find2 V y a m i p)
        clear hlt
        go_wp2_with fail
        refine wp_region_held_drew (S := fun w' => w'.rangeAt g ((m) * 4) (V.getD (m) default).cells ∧ w'.rangeAt g ((p) * 4) (V.getD (p) default).cells) (by kernel_rfl) (by exact HS0.out _ (Fr.refl _ _).drew) (fun hHeld => ?_)
        refine wpAnyH_take (i := 0) (v := ?va1) (idx_of_drop rfl) (by kernel_rfl) (by kernel_rfl) (by kernel_rfl) (fun _ _ _ h => h) (Or.inl ⟨by rfl, ?ya1⟩) (by assumption) ?ra1
        case ya1 => (intro w hSw; go_simp <;> with_reducible rfl)
        (try simp only [Act.put, List.setIfInBounds_toArray, List.set_cons_zero, List.set_cons_succ])
        refine wpAnyH_take (i := 1) (v := ?va2) (idx_of_drop rfl) (by kernel_rfl) (by kernel_rfl) (by kernel_rfl) (fun _ _ _ h => h) (Or.inl ⟨by rfl, ?ya2⟩) (by assumption) ?ra2
        case ya2 => (intro w hSw; go_simp <;> with_reducible rfl)
        (try simp only [Act.put, List.setIfInBounds_toArray, List.set_cons_zero, List.set_cons_succ])
        refine wpAnyH_take (i := 2) (v := ?va3) (idx_of_drop rfl) (by kernel_rfl) (by kernel_rfl) (by kernel_rfl) (fun _ _ _ h => h) (Or.inl ⟨by rfl, ?ya3⟩) (by assumption) ?ra3
        case ya3 => (intro w hSw; go_simp <;> with_reducible rfl)
        (try simp only [Act.put, List.setIfInBounds_toArray, List.set_cons_zero, List.set_cons_succ])
        refine wpAnyH_take (i := 3) (v := ?va4) (idx_of_drop rfl) (by kernel_rfl) (by kernel_rfl) (by kernel_rfl) (fun _ _ _ h => h) (Or.inl ⟨by rfl, ?ya4⟩) (by assumption) ?ra4
        case ya4 => (intro w hSw; go_simp <;> with_reducible rfl)
        (try simp only [Act.put, List.setIfInBounds_toArray, List.set_cons_zero, List.set_cons_succ])
        refine wpAnyH_take (i := 4) (v := .agg (V.getD (m) default).cells.toArray) (idx_of_drop rfl) (by kernel_rfl) (by kernel_rfl) (by kernel_rfl) (fun _ _ _ h => h) (yieldsIf_load_mid (by rfl) 33 (.tmp 95) rfl g ((m) * 4) (by rfl) (V.getD (m) default).cells _ (fun w hw => hw.1) Tryd.underlying33 rfl info33s) (by assumption) ?ra5
        (try simp only [Act.put, List.setIfInBounds_toArray, List.set_cons_zero, List.set_cons_succ])
        refine wpAnyH_take (i := 5) (v := ?va6) (idx_of_drop rfl) (by kernel_rfl) (by kernel_rfl) (by kernel_rfl) (fun _ _ _ h => h) (Or.inl ⟨by rfl, ?ya6⟩) (by assumption) ?ra6
        case ya6 => (intro w hSw; go_simp <;> with_reducible rfl)
        (try simp only [Act.put, List.setIfInBounds_toArray, List.set_cons_zero, List.set_cons_succ])
        refine wpAnyH_take (i := 6) (v := ?va7) (idx_of_drop rfl) (by kernel_rfl) (by kernel_rfl) (by kernel_rfl) (fun _ _ _ h => h) (Or.inl ⟨by rfl, ?ya7⟩) (by assumption) ?ra7
        case ya7 => (intro w hSw; go_simp <;> with_reducible rfl)
        (try simp only [Act.put, List.setIfInBounds_toArray, List.set_cons_zero, List.set_cons_succ])
        refine wpAnyH_take (i := 7) (v := ?va8) (idx_of_drop rfl) (by kernel_rfl) (by kernel_rfl) (by kernel_rfl) (fun _ _ _ h => h) (Or.inl ⟨by rfl, ?ya8⟩) (by assumption) ?ra8
        case ya8 => (intro w hSw; go_simp <;> with_reducible rfl)
        (try simp only [Act.put, List.setIfInBounds_toArray, List.set_cons_zero, List.set_cons_succ])
        refine wpAnyH_take (i := 8) (v := .agg (V.getD (p) default).cells.toArray) (idx_of_drop rfl) (by kernel_rfl) (by kernel_rfl) (by kernel_rfl) (fun _ _ _ h => h) (yieldsIf_load_mid (by rfl) 33 (.tmp 99) rfl g ((p) * 4) (by rfl) (V.getD (p) default).cells _ (fun w hw => hw.2) Tryd.underlying33 rfl info33s) (by assumption) ?ra9
        (try simp only [Act.put, List.setIfInBounds_toArray, List.set_cons_zero, List.set_cons_succ])
        refine wpAnyH_ready (rs := [9]) (by kernel_rfl) (by simp) ?_
        refine AllReadyH.cons (idx_of_drop rfl) (fun K hK => ?sa10) ?ma10
        case sa10 =>
          go_simp
          refine (cmp_told (V.getD (m) default) (V.getD (p) default) _).mono ?_
          rintro e wc ⟨rfl, hsc⟩
          have hsc2 := (Fr.refl (fun _ => False) wr).drew.trans' hsc
          rw [HC.out]
          refine hK.out _ _ (by exact HS0.out _ hsc2) (fun hHeld => ?_)
          clear hK K
          (try simp only [Act.put, List.setIfInBounds_toArray, List.set_cons_zero, List.set_cons_succ])
          refine wpAnyH_take (i := 10) (v := ?va11) (idx_of_drop rfl) (by kernel_rfl) (by kernel_rfl) (by kernel_rfl) (fun _ _ _ h => h) (Or.inl ⟨by rfl, ?ya11⟩) (by assumption) ?ra11
          case ya11 => (intro w hSw; go_simp <;> with_reducible rfl)
          (try simp only [Act.put, List.setIfInBounds_toArray, List.set_cons_zero, List.set_cons_succ])
          refine wpAnyH_take (i := 11) (v := ?va12) (idx_of_drop rfl) (by kernel_rfl) (by kernel_rfl) (by kernel_rfl) (fun _ _ _ h => h) (Or.inl ⟨by rfl, ?ya12⟩) (by assumption) ?ra12
          case ya12 => (intro w hSw; go_simp <;> with_reducible rfl)
          (try simp only [Act.put, List.setIfInBounds_toArray, List.set_cons_zero, List.set_cons_succ])
          refine wpAnyH_done (by kernel_rfl) ?_ _
          rename_i hH; clear hH
          go_wp2_with fail
          go_roundw
          case rel => exact ⟨i, p, rfl, rfl, HF1.out, HBR.out.same hsc2, HF.out.trans hsc2 (fun _ _ e => e) (fun _ _ e => e.elim)⟩
          case measure => simp [intOf]; omega
        exact AllReadyH.nil
      · have hlt2 : lt y (V.getD p default) = false := by simpa using hlt
        obtain ⟨q, hq⟩ : ∃ q, cmpI (V.getD m default).f.name (V.getD p default).f.name = q := ⟨_, rfl⟩
        have hq0 : 0 ≤ q := by rw [← hq, HXA.out]; exact cmp_pos hlt2
        have hq1 : ¬ q < 0 := by omega
        have hq2 : decide (q < 0) = false := decide_eq_false hq1
        have hq3 : (!decide (q < 0)) = true := by rw [hq2]; rfl
        have HC := Lib.hid hq
        have HF1 : Hid (Find2 V y a m (p + 1) j) := (by
          obtain ⟨h1, h2, h3, h4, h5⟩ := HI.out
          exact ⟨by omega, by omega, h3, .inr (by rw [Nat.add_sub_cancel]; exact hlt2), h5⟩ : Find2 V y a m (p + 1) j)
        clear hlt hlt2 hq hq0
        go_wp2_with fail
        refine wp_region_held_drew (S := fun w' => w'.rangeAt g ((m) * 4) (V.getD (m) default).cells ∧ w'.rangeAt g ((p) * 4) (V.getD (p) default).cells) (by kernel_rfl) (by exact HS0.out _ (Fr.refl _ _).drew) (fun hHeld => ?_)
        refine wpAnyH_take (i := 0) (v := ?vb1) (idx_of_drop rfl) (by kernel_rfl) (by kernel_rfl) (by kernel_rfl) (fun _ _ _ h => h) (Or.inl ⟨by rfl, ?yb1⟩) (by assumption) ?rb1
        case yb1 => (intro w hSw; go_simp <;> with_reducible rfl)
        (try simp only [Act.put, List.setIfInBounds_toArray, List.set_cons_zero, List.set_cons_succ])
        refine wpAnyH_take (i := 1) (v := ?vb2) (idx_of_drop rfl) (by kernel_rfl) (by kernel_rfl) (by kernel_rfl) (fun _ _ _ h => h) (Or.inl ⟨by rfl, ?yb2⟩) (by assumption) ?rb2
        case yb2 => (intro w hSw; go_simp <;> with_reducible rfl)
        (try simp only [Act.put, List.setIfInBounds_toArray, List.set_cons_zero, List.set_cons_succ])
        refine wpAnyH_take (i := 2) (v := ?vb3) (idx_of_drop rfl) (by kernel_rfl) (by kernel_rfl) (by kernel_rfl) (fun _ _ _ h => h) (Or.inl ⟨by rfl, ?yb3⟩) (by assumption) ?rb3
        case yb3 => (intro w hSw; go_simp <;> with_reducible rfl)
        (try simp only [Act.put, List.setIfInBounds_toArray, List.set_cons_zero, List.set_cons_succ])
        refine wpAnyH_take (i := 3) (v := ?vb4) (idx_of_drop rfl) (by kernel_rfl) (by kernel_rfl) (by kernel_rfl) (fun _ _ _ h => h) (Or.inl ⟨by rfl, ?yb4⟩) (by assumption) ?rb4
        case yb4 => (intro w hSw; go_simp <;> with_reducible rfl)
        (try simp only [Act.put, List.setIfInBounds_toArray, List.set_cons_zero, List.set_cons_succ])
        refine wpAnyH_take (i := 4) (v := .agg (V.getD (m) default).cells.toArray) (idx_of_drop rfl) (by kernel_rfl) (by kernel_rfl) (by kernel_rfl) (fun _ _ _ h => h) (yieldsIf_load_mid (by rfl) 33 (.tmp 95) rfl g ((m) * 4) (by rfl) (V.getD (m) default).cells _ (fun w hw => hw.1) Tryd.underlying33 rfl info33s) (by assumption) ?rb5
        (try simp only [Act.put, List.setIfInBounds_toArray, List.set_cons_zero, List.set_cons_succ])
        refine wpAnyH_take (i := 5) (v := ?vb6) (idx_of_drop rfl) (by kernel_rfl) (by kernel_rfl) (by kernel_rfl) (fun _ _ _ h => h) (Or.inl ⟨by rfl, ?yb6⟩) (by assumption) ?rb6
        case yb6 => (intro w hSw; go_simp <;> with_reducible rfl)
        (try simp only [Act.put, List.setIfInBounds_toArray, List.set_cons_zero, List.set_cons_succ])
        refine wpAnyH_take (i := 6) (v := ?vb7) (idx_of_drop rfl) (by kernel_rfl) (by kernel_rfl) (by kernel_rfl) (fun _ _ _ h => h) (Or.inl ⟨by rfl, ?yb7⟩) (by assumption) ?rb7
        case yb7 => (intro w hSw; go_simp <;> with_reducible rfl)
        (try simp only [Act.put, List.setIfInBounds_toArray, List.set_cons_zero, List.set_cons_succ])
        refine wpAnyH_take (i := 7) (v := ?vb8) (idx_of_drop rfl) (by kernel_rfl) (by kernel_rfl) (by kernel_rfl) (fun _ _ _ h => h) (Or.inl ⟨by rfl, ?yb8⟩) (by assumption) ?rb8
        case yb8 => (intro w hSw; go_simp <;> with_reducible rfl)
        (try simp only [Act.put, List.setIfInBounds_toArray, List.set_cons_zero, List.set_cons_succ])
        refine wpAnyH_take (i := 8) (v := .agg (V.getD (p) default).cells.toArray) (idx_of_drop rfl) (by kernel_rfl) (by kernel_rfl) (by kernel_rfl) (fun _ _ _ h => h) (yieldsIf_load_mid (by rfl) 33 (.tmp 99) rfl g ((p) * 4) (by rfl) (V.getD (p) default).cells _ (fun w hw => hw.2) Tryd.underlying33 rfl info33s) (by assumption) ?rb9
        (try simp only [Act.put, List.setIfInBounds_toArray, List.set_cons_zero, List.set_cons_succ])
        refine wpAnyH_ready (rs := [9]) (by kernel_rfl) (by simp) ?_
        refine AllReadyH.cons (idx_of_drop rfl) (fun K hK => ?sb10) ?mb10
        case sb10 =>
          go_simp
          refine (cmp_told (V.getD (m) default) (V.getD (p) default) _).mono ?_
          rintro e wc ⟨rfl, hsc⟩
          have hsc2 := (Fr.refl (fun _ => False) wr).drew.trans' hsc
          rw [HC.out]
          refine hK.out _ _ (by exact HS0.out _ hsc2) (fun hHeld => ?_)
          clear hK K
          (try simp only [Act.put, List.setIfInBounds_toArray, List.set_cons_zero, List.set_cons_succ])
          refine wpAnyH_take (i := 10) (v := ?vb11) (idx_of_drop rfl) (by kernel_rfl) (by kernel_rfl) (by kernel_rfl) (fun _ _ _ h => h) (Or.inl ⟨by rfl, ?yb11⟩) (by assumption) ?rb11
          case yb11 => (intro w hSw; go_simp <;> with_reducible rfl)
          (try simp only [Act.put, List.setIfInBounds_toArray, List.set_cons_zero, List.set_cons_succ])
          refine wpAnyH_take (i := 11) (v := ?vb12) (idx_of_drop rfl) (by kernel_rfl) (by kernel_rfl) (by kernel_rfl) (fun _ _ _ h => h) (Or.inl ⟨by rfl, ?yb12⟩) (by assumption) ?rb12
          case yb12 => (intro w hSw; go_simp <;> with_reducible rfl)
          (try simp only [Act.put, List.setIfInBounds_toArray, List.set_cons_zero, List.set_cons_succ])
          refine wpAnyH_done (by kernel_rfl) ?_ _
          rename_i hH; clear hH
          go_wp2_with fail
          go_roundw
          case rel => exact ⟨p + 1, j, by go_num, rfl, HF1.out, HBR.out.same hsc2, HF.out.trans hsc2 (fun _ _ e => e) (fun _ _ e => e.elim)⟩
          case measure => simp [intOf]; omega
        exact AllReadyH.nil
    · have HIJ : Hid (i = j) := (by have := HI.out; unfold Find2 at this; omega : i = j)
      have hi2 : (i : Int) ≤ m := by omega
      clear q1 q2
      go_wp2_with fail
      obtain ⟨wo, rfl⟩ : ∃ wo : World, wo = wr := ⟨_, rfl⟩
      obtain ⟨s, hse⟩ : ∃ s, i - a = s := ⟨_, rfl⟩
      have hst := find2_end (L := L) (X := X) (Z := [y] ++ R) (y := y) (a := a) (m := m) (i := i) (s := s) HL.out.2.2.2.1 HL.out.2.2.2.2.1 HS.out (by
        have := HI.out
        rw [← HIJ.out] at this
        rw [HV.out]
        exact this) hse
      have HST := Lib.hid hst
      have HSE := Lib.hid (And.intro hse (show s ≤ X.length by have := HL.out; omega))
      clear hse hst
      go_loopw [17] (fun v17 wr => ∃ k : Nat, v17 = .int .i64 k ∧ Hid (a + s ≤ k ∧ k ≤ m) ∧ Hid (BR g n cap wr (L ++ X.take (k - a) ++ y :: X.drop (k - a) ++ R)) ∧ Hid (FrG g w wr)) (fun v17 _ => (intOf v17).toNat)
      case atStart =>
        refine ⟨m, rfl, ⟨by have h1 := HSE.out; have h2 := HL.out; omega, Nat.le_refl _⟩, ?_, HF.out⟩
        show BR _ _ _ _ _
        have h2 := HL.out
        have := HBR.out
        rw [← HV.out] at this
        rw [List.take_of_length_le (by omega), List.drop_of_length_le (by omega)]
        simpa using this
      case round =>
        obtain ⟨k, rfl, HK, HBK, HFK⟩ := hrel
        by_cases hk : (i : Int) < (k : Int)
        · obtain ⟨p, rfl⟩ : ∃ p, k = p + 1 := ⟨k - 1, by omega⟩
          obtain ⟨VK, hVK⟩ : ∃ V, L ++ X.take (p + 1 - a) ++ y :: X.drop (p + 1 - a) ++ R = V := ⟨_, rfl⟩
          rw [hVK] at HBK
          have HVK := Lib.hid hVK; clear hVK
          have HK1 : Hid (p + 1 < n ∧ a + s ≤ p ∧ p + 1 ≤ m ∧ a ≤ p) := (by have h1 := HK.out; have h2 := HSE.out; have h3 := HL.out; omega : p + 1 < n ∧ a + s ≤ p ∧ p + 1 ≤ m ∧ a ≤ p)
          have k2 : (p : Int) + 1 < n := by have := HK1.out; omega
          have k3 : (0 : Int) ≤ (p : Int) + 1 := by omega
          have k4 : IntKind.i64.wrap (p : Int) = (p : Int) := by have := HL.out; rw [IntKind.wrap_i64]; omega
          have k5 : ((p : Int) + 1).toNat = p + 1 := by omega
          have k6 : (p : Int) < n := by omega
          have HBD : Hid (BR g n cap wr.drew VK) := HBK.out.same (Fr.refl _ wr).drew
          go_wp2_with fail
          refine wp_region_held_drew (S := fun _ => True) (by kernel_rfl) (by exact trivial) (fun hHeld => ?_)
          refine wpAnyH_take (i := 0) (v := ?vc1) (idx_of_drop rfl) (by kernel_rfl) (by kernel_rfl) (by kernel_rfl) (fun _ _ _ h => h) (Or.inl ⟨by rfl, ?yc1⟩) (by assumption) ?rc1
          case yc1 => (intro w hSw; go_simp <;> with_reducible rfl)
          (try simp only [Act.put, List.setIfInBounds_toArray, List.set_cons_zero, List.set_cons_succ])
          refine wpAnyH_take (i := 1) (v := ?vc2) (idx_of_drop rfl) (by kernel_rfl) (by kernel_rfl) (by kernel_rfl) (fun _ _ _ h => h) (Or.inl ⟨by rfl, ?yc2⟩) (by assumption) ?rc2
          case yc2 => (intro w hSw; go_simp <;> with_reducible rfl)
          (try simp only [Act.put, List.setIfInBounds_toArray, List.set_cons_zero, List.set_cons_succ])
          refine wpAnyH_take (i := 2) (v := ?vc3) (idx_of_drop rfl) (by kernel_rfl) (by kernel_rfl) (by kernel_rfl) (fun _ _ _ h => h) (Or.inl ⟨by rfl, ?yc3⟩) (by assumption) ?rc3
          case yc3 => (intro w hSw; go_simp <;> with_reducible rfl)
          (try simp only [Act.put, List.setIfInBounds_toArray, List.set_cons_zero, List.set_cons_succ])
          refine wpAnyH_take (i := 3) (v := ?vc4) (idx_of_drop rfl) (by kernel_rfl) (by kernel_rfl) (by kernel_rfl) (fun _ _ _ h => h) (Or.inl ⟨by rfl, ?yc4⟩) (by assumption) ?rc4
          case yc4 => (intro w hSw; go_simp <;> with_reducible rfl)
          (try simp only [Act.put, List.setIfInBounds_toArray, List.set_cons_zero, List.set_cons_succ])
          refine wpAnyH_take (i := 4) (v := ?vc5) (idx_of_drop rfl) (by kernel_rfl) (by kernel_rfl) (by kernel_rfl) (fun _ _ _ h => h) (Or.inl ⟨by rfl, ?yc5⟩) (by assumption) ?rc5
          case yc5 => (intro w hSw; go_simp <;> with_reducible rfl)
          (try simp only [Act.put, List.setIfInBounds_toArray, List.set_cons_zero, List.set_cons_succ])
          refine wpAnyH_take (i := 5) (v := ?vc6) (idx_of_drop rfl) (by kernel_rfl) (by kernel_rfl) (by kernel_rfl) (fun _ _ _ h => h) (Or.inl ⟨by rfl, ?yc6⟩) (by assumption) ?rc6
          case yc6 => (intro w hSw; go_simp <;> with_reducible rfl)
          (try simp only [Act.put, List.setIfInBounds_toArray, List.set_cons_zero, List.set_cons_succ])
          refine wpAnyH_take (i := 6) (v := ?vc7) (idx_of_drop rfl) (by kernel_rfl) (by kernel_rfl) (by kernel_rfl) (fun _ _ _ h => h) (Or.inl ⟨by rfl, ?yc7⟩) (by assumption) ?rc7
          case yc7 => (intro w hSw; go_simp <;> with_reducible rfl)
          (try simp only [Act.put, List.setIfInBounds_toArray, List.set_cons_zero, List.set_cons_succ])
          refine wpAnyH_take (i := 7) (v := ?vc8) (idx_of_drop rfl) (by kernel_rfl) (by kernel_rfl) (by kernel_rfl) (fun _ _ _ h => h) (Or.inl ⟨by rfl, ?yc8⟩) (by assumption) ?rc8
          case yc8 => (intro w hSw; go_simp <;> with_reducible rfl)
          (try simp only [Act.put, List.setIfInBounds_toArray, List.set_cons_zero, List.set_cons_succ])
          refine wpAnyH_take (i := 8) (v := ?vc9) (idx_of_drop rfl) (by kernel_rfl) (by kernel_rfl) (by kernel_rfl) (fun _ _ _ h => h) (Or.inl ⟨by rfl, ?yc9⟩) (by assumption) ?rc9
          case yc9 => (intro w hSw; go_simp <;> with_reducible rfl)
          (try simp only [Act.put, List.setIfInBounds_toArray, List.set_cons_zero, List.set_cons_succ])
          refine wpAnyH_take (i := 10) (v := ?vc10) (idx_of_drop rfl) (by kernel_rfl) (by kernel_rfl) (by kernel_rfl) (fun _ _ _ h => h) (Or.inl ⟨by rfl, ?yc10⟩) (by assumption) ?rc10
          case yc10 => (intro w hSw; go_simp <;> with_reducible rfl)
          (try simp only [Act.put, List.setIfInBounds_toArray, List.set_cons_zero, List.set_cons_succ])
          refine wpAnyH_take (i := 11) (v := ?vc11) (idx_of_drop rfl) (by kernel_rfl) (by kernel_rfl) (by kernel_rfl) (fun _ _ _ h => h) (Or.inl ⟨by rfl, ?yc11⟩) (by assumption) ?rc11
          case yc11 => (intro w hSw; go_simp <;> with_reducible rfl)
          (try simp only [Act.put, List.setIfInBounds_toArray, List.set_cons_zero, List.set_cons_succ])
          refine wpAnyH_take (i := 12) (v := ?vc12) (idx_of_drop rfl) (by kernel_rfl) (by kernel_rfl) (by kernel_rfl) (fun _ _ _ h => h) (Or.inl ⟨by rfl, ?yc12⟩) (by assumption) ?rc12
          case yc12 => (intro w hSw; go_simp <;> with_reducible rfl)
          (try simp only [Act.put, List.setIfInBounds_toArray, List.set_cons_zero, List.set_cons_succ])
          refine wpAnyH_ready (rs := [9, 13]) (by kernel_rfl) (by simp) ?_
          refine AllReadyH.cons (idx_of_drop rfl) (fun K hK => ?sc13) ?mc13
          case sc13 =>
            rw [if_pos (by rfl)]
            refine wp_load_mid 33 (.tmp 121) rfl g _ (by rfl) _ _ (HBD.out.range (j := p) (by have := HK1.out; omega)).1 Tryd.underlying33 rfl info33s ?_
            refine hK.out _ _ (by exact trivial) (fun hHeld => ?_)
            clear hK K
            (try simp only [Act.put, List.setIfInBounds_toArray, List.set_cons_zero, List.set_cons_succ])
            refine wpAnyH_ready (rs := [13]) (by kernel_rfl) (by simp) ?_
            refine AllReadyH.cons (idx_of_drop rfl) (fun K hK => ?sc14) ?mc14
            case sc14 =>
              rw [if_pos (by rfl)]
              refine wp_load_mid 33 (.tmp 125) rfl g _ (by rfl) _ _ (HBD.out.range (j := p + 1) (by have := HK1.out; omega)).1 Tryd.underlying33 rfl info33s ?_
              refine hK.out _ _ (by exact trivial) (fun hHeld => ?_)
              clear hK K
              (try simp only [Act.put, List.setIfInBounds_toArray, List.set_cons_zero, List.set_cons_succ])
              refine wpAnyH_take (i := 14) (v := ?vc15) (idx_of_drop rfl) (by kernel_rfl) (by kernel_rfl) (by kernel_rfl) (fun _ _ _ h => h) (Or.inl ⟨by rfl, ?yc15⟩) (by assumption) ?rc15
              case yc15 => (intro w hSw; go_simp <;> with_reducible rfl)
              (try simp only [Act.put, List.setIfInBounds_toArray, List.set_cons_zero, List.set_cons_succ])
              refine wpAnyH_ready (rs := [15]) (by kernel_rfl) (by simp) ?_
              refine AllReadyH.cons (idx_of_drop rfl) (fun K hK => ?sc16) ?mc16
              case sc16 =>
                rw [if_pos (by rfl)]
                refine wp_store_mid 33 (.tmp 127) (.tmp 122) rfl g ((p + 1) * 4) (VK.getD (p) default).cells.toArray (by rfl) (by rfl) (HBD.out.range (j := p + 1) (by have := HK1.out; omega)).2 info33s (all_oneCell_toArray (one4 _)) ?_
                refine hK.out _ _ (by exact trivial) (fun hHeld => ?_)
                clear hK K
                (try simp only [Act.put, List.setIfInBounds_toArray, List.set_cons_zero, List.set_cons_succ])
                refine wpAnyH_take (i := 16) (v := ?vc17) (idx_of_drop rfl) (by kernel_rfl) (by kernel_rfl) (by kernel_rfl) (fun _ _ _ h => h) (Or.inl ⟨by rfl, ?yc17⟩) (by assumption) ?rc17
                case yc17 => (intro w hSw; go_simp <;> with_reducible rfl)
                (try simp only [Act.put, List.setIfInBounds_toArray, List.set_cons_zero, List.set_cons_succ])
                refine wpAnyH_ready (rs := [17]) (by kernel_rfl) (by simp) ?_
                refine AllReadyH.cons (idx_of_drop rfl) (fun K hK => ?sc18) ?mc18
                case sc18 =>
                  rw [if_pos (by rfl)]
                  refine wp_store_mid 33 (.tmp 128) (.tmp 126) rfl g ((p) * 4) (VK.getD (p + 1) default).cells.toArray (by rfl) (by rfl) ((HBD.out.put (j := p + 1) (by have := HK1.out; omega) (VK.getD (p) default)).range (j := p) (by have := HK1.out; omega)).2 info33s (all_oneCell_toArray (one4 _)) ?_
                  refine hK.out _ _ (by exact trivial) (fun hHeld => ?_)
                  clear hK K
                  (try simp only [Act.put, List.setIfInBounds_toArray, List.set_cons_zero, List.set_cons_succ])
                  refine wpAnyH_done (by kernel_rfl) ?_ _
                  rename_i hH; clear hH
                  go_wp2_with fail
                  go_roundw
                  case rel =>
                    refine ⟨p, by go_num, (by have := HK1.out; omega : a + s ≤ p ∧ p ≤ m), ?_, frg_setCells _ _ _ _ (frg_setCells _ _ _ _ HFK.out.drew)⟩
                    show BR _ _ _ _ _
                    have hsw := HBD.out.swap (i := p + 1) (j := p) (by have := HK1.out; omega) (by have := HK1.out; omega)
                    have e : swl VK (p + 1) p = L ++ X.take (p - a) ++ y :: X.drop (p - a) ++ R := by
                      have h1 := HK1.out
                      have h3 := HL.out
                      have h4 := sw_back (L := L) (X := X) (R := R) (y := y) (a := a) (t := p - a) HL.out.2.2.2.1 (by omega)
                      rw [show a + (p - a) = p by omega, show p - a + 1 = p + 1 - a by omega, HVK.out] at h4
                      exact h4
                    rw [← e]
                    exact hsw
                  case measure => simp [intOf]
                exact AllReadyH.nil
              exact AllReadyH.nil
            exact AllReadyH.nil
          refine AllReadyH.cons (idx_of_drop rfl) (fun K hK => ?sc19) ?mc19
          case sc19 =>
            rw [if_pos (by rfl)]
            refine wp_load_mid 33 (.tmp 125) rfl g _ (by rfl) _ _ (HBD.out.range (j := p + 1) (by have := HK1.out; omega)).1 Tryd.underlying33 rfl info33s ?_
            refine hK.out _ _ (by exact trivial) (fun hHeld => ?_)
            clear hK K
            (try simp only [Act.put, List.setIfInBounds_toArray, List.set_cons_zero, List.set_cons_succ])
            refine wpAnyH_ready (rs := [9]) (by kernel_rfl) (by simp) ?_
            refine AllReadyH.cons (idx_of_drop rfl) (fun K hK => ?sc20) ?mc20
            case sc20 =>
              rw [if_pos (by rfl)]
              refine wp_load_mid 33 (.tmp 121) rfl g _ (by rfl) _ _ (HBD.out.range (j := p) (by have := HK1.out; omega)).1 Tryd.underlying33 rfl info33s ?_
              refine hK.out _ _ (by exact trivial) (fun hHeld => ?_)
              clear hK K
              (try simp only [Act.put, List.setIfInBounds_toArray, List.set_cons_zero, List.set_cons_succ])
              refine wpAnyH_take (i := 14) (v := ?vc21) (idx_of_drop rfl) (by kernel_rfl) (by kernel_rfl) (by kernel_rfl) (fun _ _ _ h => h) (Or.inl ⟨by rfl, ?yc21⟩) (by assumption) ?rc21
              case yc21 => (intro w hSw; go_simp <;> with_reducible rfl)
              (try simp only [Act.put, List.setIfInBounds_toArray, List.set_cons_zero, List.set_cons_succ])
              refine wpAnyH_ready (rs := [15]) (by kernel_rfl) (by simp) ?_
              refine AllReadyH.cons (idx_of_drop rfl) (fun K hK => ?sc22) ?mc22
              case sc22 =>
                rw [if_pos (by rfl)]
                refine wp_store_mid 33 (.tmp 127) (.tmp 122) rfl g ((p + 1) * 4) (VK.getD (p) default).cells.toArray (by rfl) (by rfl) (HBD.out.range (j := p + 1) (by have := HK1.out; omega)).2 info33s (all_oneCell_toArray (one4 _)) ?_
                refine hK.out _ _ (by exact trivial) (fun hHeld => ?_)
                clear hK K
                (try simp only [Act.put, List.setIfInBounds_toArray, List.set_cons_zero, List.set_cons_succ])
                refine wpAnyH_take (i := 16) (v := ?vc23) (idx_of_drop rfl) (by kernel_rfl) (by kernel_rfl) (by kernel_rfl) (fun _ _ _ h => h) (Or.inl ⟨by rfl, ?yc23⟩) (by assumption) ?rc23
                case yc23 => (intro w hSw; go_simp <;> with_reducible rfl)
                (try simp only [Act.put, List.setIfInBounds_toArray, List.set_cons_zero, List.set_cons_succ])
                refine wpAnyH_ready (rs := [17]) (by kernel_rfl) (by simp) ?_
                refine AllReadyH.cons (idx_of_drop rfl) (fun K hK => ?sc24) ?mc24
                case sc24 =>
                  rw [if_pos (by rfl)]
                  refine wp_store_mid 33 (.tmp 128) (.tmp 126) rfl g ((p) * 4) (VK.getD (p + 1) default).cells.toArray (by rfl) (by rfl) ((HBD.out.put (j := p + 1) (by have := HK1.out; omega) (VK.getD (p) default)).range (j := p) (by have := HK1.out; omega)).2 info33s (all_oneCell_toArray (one4 _)) ?_
                  refine hK.out _ _ (by exact trivial) (fun hHeld => ?_)
                  clear hK K
                  (try simp only [Act.put, List.setIfInBounds_toArray, List.set_cons_zero, List.set_cons_succ])
                  refine wpAnyH_done (by kernel_rfl) ?_ _
                  rename_i hH; clear hH
                  go_wp2_with fail
                  go_roundw
                  case rel =>
                    refine ⟨p, by go_num, (by have := HK1.out; omega : a + s ≤ p ∧ p ≤ m), ?_, frg_setCells _ _ _ _ (frg_setCells _ _ _ _ HFK.out.drew)⟩
                    show BR _ _ _ _ _
                    have hsw := HBD.out.swap (i := p + 1) (j := p) (by have := HK1.out; omega) (by have := HK1.out; omega)
                    have e : swl VK (p + 1) p = L ++ X.take (p - a) ++ y :: X.drop (p - a) ++ R := by
                      have h1 := HK1.out
                      have h3 := HL.out
                      have h4 := sw_back (L := L) (X := X) (R := R) (y := y) (a := a) (t := p - a) HL.out.2.2.2.1 (by omega)
                      rw [show a + (p - a) = p by omega, show p - a + 1 = p + 1 - a by omega, HVK.out] at h4
                      exact h4
                    rw [← e]
                    exact hsw
                  case measure => simp [intOf]
                exact AllReadyH.nil
              exact AllReadyH.nil
            exact AllReadyH.nil
          exact AllReadyH.nil
        · have HKE : Hid (k - a = s) := (by have h1 := HK.out; have h2 := HSE.out; have h3 := HL.out; omega : k - a = s)
          go_wp2_with fail
          refine bodyPost_ret (results_none rfl _ _ _) rfl ?_
          refine ⟨rfl, _, HST.out, ?_, HFK.out⟩
          have := HBK.out
          rw [HKE.out] at this
          simpa using this
end Go.Proofs.YtlgonkopojancaaDoor
