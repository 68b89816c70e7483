/- The walk of symMerge: one element ahead. -/
import Derived.Test.YtlgonkopojancaaDoorFxRot
namespace Go.Proofs.YtlgonkopojancaaDoor
open Go.RowKit

/-- Sort's closure as a value -/
def cmpV : Value := .func (.func 35) #[] #[]
theorem enters35 : ∀ args w, (callFunc 35 args).run Tryd.prog w = .ok (.enter 35 args) w := enters_of Tryd.func35 (by kernel_rfl) rfl
theorem cmp_told (u v : FV) (w : World) : Calls Tryd.prog 35 #[.agg u.cells.toArray, .agg v.cells.toArray] w fun e w' => e = .returned (.int .i64 (cmpI u.f.name v.f.name)) ∧ Same w w' := by
  refine (sort1_any u v w).mono ?_
  rintro e w' ⟨rfl, rfl⟩
  exact ⟨rfl, ((Fr.refl _ w).alloc _).alloc _⟩
theorem range2 {g n cap p q : Nat} {w : World} {vs : List FV} (h : BR g n cap w vs) (hp : p < n) (hq : q < n) : ∀ w', Same w w' → w'.rangeAt g (p * 4) (vs.getD p default).cells ∧ w'.rangeAt g (q * 4) (vs.getD q default).cells :=
  fun _ f => ⟨rangeAt_same (h.range hp).1 f, rangeAt_same (h.range hq).1 f⟩
/-- what symMerge leaves -/
def SymPost (g n cap : Nat) (L X Y R : List FV) (w : World) (e : Ending) (w' : World) : Prop :=
  e = .returned (.tuple #[]) ∧ ∃ Z, StableOf FV.key (X ++ Y) Z ∧ BR g n cap w' (L ++ Z ++ R) ∧ FrG g w w'
def lt (u v : FV) : Bool := lessB u.f.name v.f.name
/-- where the search for the place stands -/
def Find1 (V : List FV) (x : FV) (m b i j : Nat) : Prop := m ≤ i ∧ i ≤ j ∧ j ≤ b ∧ (i = m ∨ lt (V.getD (i - 1) default) x = true) ∧ (j = b ∨ lt (V.getD j default) x = false)

theorem sw_step {L Y R : List FV} {x : FV} {a t : Nat} (ha : L.length = a) (ht : t < Y.length) : swl (L ++ Y.take t ++ x :: Y.drop t ++ R) (a + t) (a + t + 1) = L ++ Y.take (t + 1) ++ x :: Y.drop (t + 1) ++ R := by
  have hl : (L ++ Y.take t).length = a + t := by rw [List.length_append, List.length_take]; omega
  have hd : Y.drop t = Y[t] :: Y.drop (t + 1) := List.drop_eq_getElem_cons ht
  have e : L ++ Y.take t ++ x :: Y.drop t ++ R = (L ++ Y.take t) ++ x :: ([] ++ Y[t] :: (Y.drop (t + 1) ++ R)) := by rw [hd]; simp only [List.append_assoc, List.cons_append, List.nil_append]
  rw [e, swl_app hl (by simp), List.take_succ_eq_append_getElem ht]
  simp only [List.append_assoc, List.cons_append, List.nil_append]
theorem find1_end {L Y R : List FV} {x : FV} {m b i s : Nat} (hm : L.length + 1 = m) (hb : m + Y.length = b) (hs : Srt FV.key Y) (h : Find1 (L ++ [x] ++ Y ++ R) x m b i i) (hse : i - m = s) : StableOf FV.key ([x] ++ Y) (Y.take s ++ x :: Y.drop s) := by
  obtain ⟨h1, _, h3, h4, h5⟩ := h
  have hsl : s ≤ Y.length := by omega
  have hg : ∀ j (hj : j < Y.length), (L ++ [x] ++ Y ++ R).getD (m + j) default = Y[j] := by
    intro j hj
    rw [List.getD_eq_getElem?_getD, List.append_assoc, List.getElem?_append_right (by simp; omega)]
    have e : m + j - (L ++ [x]).length = j := by simp; omega
    rw [e, List.getElem?_append_left hj, List.getElem?_eq_getElem hj]
    rfl
  have hsp : Y = Y.take s ++ Y.drop s := (List.take_append_drop s Y).symm
  have hs' : Srt FV.key (Y.take s ++ Y.drop s) := by rw [← hsp]; exact hs
  have hx : Srt FV.key [x] := List.pairwise_singleton _ _
  have hlss : Lss FV.key (Y.take s) [x] := by
    refine lss_of FV.key (srt_left FV.key hs') hx ?_
    rcases Nat.eq_zero_or_pos s with h0 | h0
    · left; rw [h0]; rfl
    · refine .inr (.inr ⟨Y[s - 1]'(by omega), x, Y.take (s - 1), [], ?_, rfl, ?_⟩)
      · have := List.take_succ_eq_append_getElem (l := Y) (i := s - 1) (by omega)
        rw [show s - 1 + 1 = s by omega] at this
        exact this
      · have := h4.resolve_left (by omega)
        rw [show i - 1 = m + (s - 1) by omega, hg _ (by omega)] at this
        exact this
  have hleq : Leq FV.key [x] (Y.drop s) := by
    refine leq_of FV.key hx (srt_right FV.key hs') ?_
    by_cases h0 : s = Y.length
    · exact .inr (.inl (List.drop_of_length_le (by omega)))
    · refine .inr (.inr ⟨x, Y[s]'(by omega), [], Y.drop (s + 1), rfl, List.drop_eq_getElem_cons (by omega), ?_⟩)
      have := h5.resolve_left (by omega)
      rw [show i = m + s by omega, hg _ (by omega)] at this
      exact this
  have h1' : StableOf FV.key ([] ++ Y.take s) (Y.take s) := stable_srt FV.key (srt_left FV.key hs')
  have h2' : StableOf FV.key ([x] ++ Y.drop s) (x :: Y.drop s) := stable_srt FV.key (srt_app FV.key hx (srt_right FV.key hs') hleq)
  have := stable_parts FV.key (X1 := []) (X2 := [x]) (Y1 := Y.take s) (Y2 := Y.drop s) hx hs' hlss (fun _ h => by simp at h) h1' h2'
  rw [List.take_append_drop] at this
  exact this

set_option linter.unusedSimpArgs false in
set_option maxRecDepth 100000 in
set_option maxHeartbeats 8000000 in
theorem sym_one (g n cap a m b : Nat) (x : FV) (L Y R : List FV) (w : World) (h : BR g n cap w (L ++ [x] ++ Y ++ R)) (h63 : n ≤ 1000000) (hY : 0 < Y.length) (ha : L.length = a) (hm : a + 1 = m) (hb : m + Y.length = b) (hs : Srt FV.key Y) :
    Calls Tryd.prog 58 #[.slice (some ⟨g, 0, none⟩) n cap, .int .i64 a, .int .i64 m, .int .i64 b, cmpV] w (SymPost g n cap L [x] Y R w) := by
  have hl := h.len
  simp only [List.length_append, List.length_singleton] at hl
  obtain ⟨V, hV⟩ : ∃ V, L ++ [x] ++ Y ++ R = V := ⟨_, rfl⟩
  have hxa : V.getD a default = x := by rw [← hV]; simp only [List.append_assoc]; exact getD_app ha
  rw [hV] at h
  have e35 := enters35
  have HB := Lib.hid h; have HL := Lib.hid (And.intro hl (And.intro h63 (And.intro hY (And.intro ha (And.intro hm hb))))); have HV := Lib.hid hV; have HS := Lib.hid hs; have HXA := Lib.hid hxa
  have i1 : (m : Int) - (a : Int) = 1 := by omega
  have i1b : (((m : Int) - (a : Int)) == 1) = true := by rw [i1]; rfl
  have I1 := Lib.hid i1
  have i2 : (m : Int) < b := by omega
  have i3 : (b : Int) ≤ 1000000 := by omega
  have i4 : (a : Int) < m := by omega
  have i5 : (b : Int) ≤ n := by omega
  clear h hl h63 hY ha hm hb hV hs hxa i1
  unfold cmpV
  go_enter Tryd.func58, Tryd.ntmps58
  go_wp2_with fail
  go_loopw [10, 11, 12] (fun v10 v11 _ wr => ∃ i j : Nat, v10 = .int .i64 i ∧ v11 = .int .i64 j ∧ Hid (Find1 V x m b i j) ∧ Hid (BR g n cap wr V) ∧ Hid (FrG g w wr)) (fun v10 v11 _ _ => (intOf v11).toNat - (intOf v10).toNat)
  case atStart => exact ⟨m, b, rfl, rfl, ⟨Nat.le_refl _, by omega, Nat.le_refl _, .inl rfl, .inl rfl⟩, HB.out, Fr.refl _ _⟩
  case round =>
    obtain ⟨i, j, rfl, rfl, HI, HBR, HF⟩ := hrel
    have q1 : (i : Int) ≤ j := by have := HI.out; unfold Find1 at this; omega
    have q2 : (j : Int) ≤ b := by have := HI.out; unfold Find1 at this; omega
    have q3 : (m : Int) ≤ i := by have := HI.out; unfold Find1 at this; omega
    by_cases hij : (i : Int) < j
    · obtain ⟨p, hp⟩ : ∃ p, (i + j) / 2 = p := ⟨_, rfl⟩
      have p1 : ((i : Int) + (j : Int)) / 2 = (p : Int) := by omega
      have p2 : (p : Int) < j := by omega
      have p3 : (i : Int) ≤ p := by omega
      have p4 : (p : Int) < n := by omega
      have p5 : (a : Int) < n := by omega
      have P0 := Lib.hid hp; clear hp
      have HS0 := Lib.hid (range2 (p := p) (q := a) HBR.out (by omega) (by omega))
      by_cases hlt : lt (V.getD p default) x = true
      · have HC : Hid (cmpI (V.getD p default).f.name (V.getD a default).f.name = -1) := (by rw [HXA.out]; exact cmp_neg hlt : cmpI (V.getD p default).f.name (V.getD a default).f.name = -1)
        have HF1 : Hid (Find1 V x m b (p + 1) j) := (by
          obtain ⟨h1, h2, h3, h4, h5⟩ := HI.out
          exact ⟨by omega, by omega, h3, .inr (by rw [Nat.add_sub_cancel]; exact hlt), h5⟩ : Find1 V x m b (p + 1) j)
        clear hlt
        go_wp2_with fail
        refine wp_region_held_drew (S := fun w' => w'.rangeAt g ((p) * 4) (V.getD (p) default).cells ∧ w'.rangeAt g ((a) * 4) (V.getD (a) default).cells) (by kernel_rfl) (by exact HS0.out _ (Fr.refl _ _).drew) (fun hHeld => ?_)
        refine wpAnyH_take (i := 0) (v := ?va1) (idx_of_drop rfl) (by kernel_rfl) (by kernel_rfl) (by kernel_rfl) (fun _ _ _ h => h) (Or.inl ⟨by rfl, ?ya1⟩) (by assumption) ?ra1
        case ya1 => (intro w hSw; go_simp <;> with_reducible rfl)
        (try simp only [Act.put, List.setIfInBounds_toArray, List.set_cons_zero, List.set_cons_succ])
        refine wpAnyH_take (i := 1) (v := ?va2) (idx_of_drop rfl) (by kernel_rfl) (by kernel_rfl) (by kernel_rfl) (fun _ _ _ h => h) (Or.inl ⟨by rfl, ?ya2⟩) (by assumption) ?ra2
        case ya2 => (intro w hSw; go_simp <;> with_reducible rfl)
        (try simp only [Act.put, List.setIfInBounds_toArray, List.set_cons_zero, List.set_cons_succ])
        refine wpAnyH_take (i := 2) (v := ?va3) (idx_of_drop rfl) (by kernel_rfl) (by kernel_rfl) (by kernel_rfl) (fun _ _ _ h => h) (Or.inl ⟨by rfl, ?ya3⟩) (by assumption) ?ra3
        case ya3 => (intro w hSw; go_simp <;> with_reducible rfl)
        (try simp only [Act.put, List.setIfInBounds_toArray, List.set_cons_zero, List.set_cons_succ])
        refine wpAnyH_take (i := 3) (v := ?va4) (idx_of_drop rfl) (by kernel_rfl) (by kernel_rfl) (by kernel_rfl) (fun _ _ _ h => h) (Or.inl ⟨by rfl, ?ya4⟩) (by assumption) ?ra4
        case ya4 => (intro w hSw; go_simp <;> with_reducible rfl)
        (try simp only [Act.put, List.setIfInBounds_toArray, List.set_cons_zero, List.set_cons_succ])
        refine wpAnyH_take (i := 4) (v := .agg (V.getD (p) default).cells.toArray) (idx_of_drop rfl) (by kernel_rfl) (by kernel_rfl) (by kernel_rfl) (fun _ _ _ h => h) (yieldsIf_load_mid (by rfl) 33 (.tmp 43) rfl g ((p) * 4) (by rfl) (V.getD (p) default).cells _ (fun w hw => hw.1) Tryd.underlying33 rfl info33s) (by assumption) ?ra5
        (try simp only [Act.put, List.setIfInBounds_toArray, List.set_cons_zero, List.set_cons_succ])
        refine wpAnyH_take (i := 5) (v := ?va6) (idx_of_drop rfl) (by kernel_rfl) (by kernel_rfl) (by kernel_rfl) (fun _ _ _ h => h) (Or.inl ⟨by rfl, ?ya6⟩) (by assumption) ?ra6
        case ya6 => (intro w hSw; go_simp <;> with_reducible rfl)
        (try simp only [Act.put, List.setIfInBounds_toArray, List.set_cons_zero, List.set_cons_succ])
        refine wpAnyH_take (i := 6) (v := ?va7) (idx_of_drop rfl) (by kernel_rfl) (by kernel_rfl) (by kernel_rfl) (fun _ _ _ h => h) (Or.inl ⟨by rfl, ?ya7⟩) (by assumption) ?ra7
        case ya7 => (intro w hSw; go_simp <;> with_reducible rfl)
        (try simp only [Act.put, List.setIfInBounds_toArray, List.set_cons_zero, List.set_cons_succ])
        refine wpAnyH_take (i := 7) (v := ?va8) (idx_of_drop rfl) (by kernel_rfl) (by kernel_rfl) (by kernel_rfl) (fun _ _ _ h => h) (Or.inl ⟨by rfl, ?ya8⟩) (by assumption) ?ra8
        case ya8 => (intro w hSw; go_simp <;> with_reducible rfl)
        (try simp only [Act.put, List.setIfInBounds_toArray, List.set_cons_zero, List.set_cons_succ])
        refine wpAnyH_take (i := 8) (v := .agg (V.getD (a) default).cells.toArray) (idx_of_drop rfl) (by kernel_rfl) (by kernel_rfl) (by kernel_rfl) (fun _ _ _ h => h) (yieldsIf_load_mid (by rfl) 33 (.tmp 47) rfl g ((a) * 4) (by rfl) (V.getD (a) default).cells _ (fun w hw => hw.2) Tryd.underlying33 rfl info33s) (by assumption) ?ra9
        (try simp only [Act.put, List.setIfInBounds_toArray, List.set_cons_zero, List.set_cons_succ])
        refine wpAnyH_ready (rs := [9]) (by kernel_rfl) (by simp) ?_
        refine AllReadyH.cons (idx_of_drop rfl) (fun K hK => ?sa10) ?ma10
        case sa10 =>
          go_simp
          refine (cmp_told (V.getD (p) default) (V.getD (a) default) _).mono ?_
          rintro e wc ⟨rfl, hsc⟩
          have hsc2 := (Fr.refl (fun _ => False) wr).drew.trans' hsc
          rw [HC.out]
          refine hK.out _ _ (by exact HS0.out _ hsc2) (fun hHeld => ?_)
          clear hK K
          (try simp only [Act.put, List.setIfInBounds_toArray, List.set_cons_zero, List.set_cons_succ])
          refine wpAnyH_take (i := 10) (v := ?va11) (idx_of_drop rfl) (by kernel_rfl) (by kernel_rfl) (by kernel_rfl) (fun _ _ _ h => h) (Or.inl ⟨by rfl, ?ya11⟩) (by assumption) ?ra11
          case ya11 => (intro w hSw; go_simp <;> with_reducible rfl)
          (try simp only [Act.put, List.setIfInBounds_toArray, List.set_cons_zero, List.set_cons_succ])
          refine wpAnyH_done (by kernel_rfl) ?_ _
          rename_i hH; clear hH
          go_wp2_with fail
          go_roundw
          case rel => exact ⟨p + 1, j, by go_num, rfl, HF1.out, HBR.out.same hsc2, HF.out.trans hsc2 (fun _ _ e => e) (fun _ _ e => e.elim)⟩
          case measure => simp [intOf]; omega
        exact AllReadyH.nil
      · have hlt2 : lt (V.getD p default) x = false := by simpa using hlt
        obtain ⟨q, hq⟩ : ∃ q, cmpI (V.getD p default).f.name (V.getD a default).f.name = q := ⟨_, rfl⟩
        have hq0 : 0 ≤ q := by rw [← hq, HXA.out]; exact cmp_pos hlt2
        have hq1 : ¬ q < 0 := by omega
        have HC := Lib.hid hq
        have HF1 : Hid (Find1 V x m b i p) := (by
          obtain ⟨h1, h2, h3, h4, h5⟩ := HI.out
          exact ⟨h1, by omega, by omega, h4, .inr hlt2⟩ : Find1 V x m b i p)
        clear hlt hlt2 hq hq0
        go_wp2_with fail
        refine wp_region_held_drew (S := fun w' => w'.rangeAt g ((p) * 4) (V.getD (p) default).cells ∧ w'.rangeAt g ((a) * 4) (V.getD (a) default).cells) (by kernel_rfl) (by exact HS0.out _ (Fr.refl _ _).drew) (fun hHeld => ?_)
        refine wpAnyH_take (i := 0) (v := ?vb1) (idx_of_drop rfl) (by kernel_rfl) (by kernel_rfl) (by kernel_rfl) (fun _ _ _ h => h) (Or.inl ⟨by rfl, ?yb1⟩) (by assumption) ?rb1
        case yb1 => (intro w hSw; go_simp <;> with_reducible rfl)
        (try simp only [Act.put, List.setIfInBounds_toArray, List.set_cons_zero, List.set_cons_succ])
        refine wpAnyH_take (i := 1) (v := ?vb2) (idx_of_drop rfl) (by kernel_rfl) (by kernel_rfl) (by kernel_rfl) (fun _ _ _ h => h) (Or.inl ⟨by rfl, ?yb2⟩) (by assumption) ?rb2
        case yb2 => (intro w hSw; go_simp <;> with_reducible rfl)
        (try simp only [Act.put, List.setIfInBounds_toArray, List.set_cons_zero, List.set_cons_succ])
        refine wpAnyH_take (i := 2) (v := ?vb3) (idx_of_drop rfl) (by kernel_rfl) (by kernel_rfl) (by kernel_rfl) (fun _ _ _ h => h) (Or.inl ⟨by rfl, ?yb3⟩) (by assumption) ?rb3
        case yb3 => (intro w hSw; go_simp <;> with_reducible rfl)
        (try simp only [Act.put, List.setIfInBounds_toArray, List.set_cons_zero, List.set_cons_succ])
        refine wpAnyH_take (i := 3) (v := ?vb4) (idx_of_drop rfl) (by kernel_rfl) (by kernel_rfl) (by kernel_rfl) (fun _ _ _ h => h) (Or.inl ⟨by rfl, ?yb4⟩) (by assumption) ?rb4
        case yb4 => (intro w hSw; go_simp <;> with_reducible rfl)
        (try simp only [Act.put, List.setIfInBounds_toArray, List.set_cons_zero, List.set_cons_succ])
        refine wpAnyH_take (i := 4) (v := .agg (V.getD (p) default).cells.toArray) (idx_of_drop rfl) (by kernel_rfl) (by kernel_rfl) (by kernel_rfl) (fun _ _ _ h => h) (yieldsIf_load_mid (by rfl) 33 (.tmp 43) rfl g ((p) * 4) (by rfl) (V.getD (p) default).cells _ (fun w hw => hw.1) Tryd.underlying33 rfl info33s) (by assumption) ?rb5
        (try simp only [Act.put, List.setIfInBounds_toArray, List.set_cons_zero, List.set_cons_succ])
        refine wpAnyH_take (i := 5) (v := ?vb6) (idx_of_drop rfl) (by kernel_rfl) (by kernel_rfl) (by kernel_rfl) (fun _ _ _ h => h) (Or.inl ⟨by rfl, ?yb6⟩) (by assumption) ?rb6
        case yb6 => (intro w hSw; go_simp <;> with_reducible rfl)
        (try simp only [Act.put, List.setIfInBounds_toArray, List.set_cons_zero, List.set_cons_succ])
        refine wpAnyH_take (i := 6) (v := ?vb7) (idx_of_drop rfl) (by kernel_rfl) (by kernel_rfl) (by kernel_rfl) (fun _ _ _ h => h) (Or.inl ⟨by rfl, ?yb7⟩) (by assumption) ?rb7
        case yb7 => (intro w hSw; go_simp <;> with_reducible rfl)
        (try simp only [Act.put, List.setIfInBounds_toArray, List.set_cons_zero, List.set_cons_succ])
        refine wpAnyH_take (i := 7) (v := ?vb8) (idx_of_drop rfl) (by kernel_rfl) (by kernel_rfl) (by kernel_rfl) (fun _ _ _ h => h) (Or.inl ⟨by rfl, ?yb8⟩) (by assumption) ?rb8
        case yb8 => (intro w hSw; go_simp <;> with_reducible rfl)
        (try simp only [Act.put, List.setIfInBounds_toArray, List.set_cons_zero, List.set_cons_succ])
        refine wpAnyH_take (i := 8) (v := .agg (V.getD (a) default).cells.toArray) (idx_of_drop rfl) (by kernel_rfl) (by kernel_rfl) (by kernel_rfl) (fun _ _ _ h => h) (yieldsIf_load_mid (by rfl) 33 (.tmp 47) rfl g ((a) * 4) (by rfl) (V.getD (a) default).cells _ (fun w hw => hw.2) Tryd.underlying33 rfl info33s) (by assumption) ?rb9
        (try simp only [Act.put, List.setIfInBounds_toArray, List.set_cons_zero, List.set_cons_succ])
        refine wpAnyH_ready (rs := [9]) (by kernel_rfl) (by simp) ?_
        refine AllReadyH.cons (idx_of_drop rfl) (fun K hK => ?sb10) ?mb10
        case sb10 =>
          go_simp
          refine (cmp_told (V.getD (p) default) (V.getD (a) default) _).mono ?_
          rintro e wc ⟨rfl, hsc⟩
          have hsc2 := (Fr.refl (fun _ => False) wr).drew.trans' hsc
          rw [HC.out]
          refine hK.out _ _ (by exact HS0.out _ hsc2) (fun hHeld => ?_)
          clear hK K
          (try simp only [Act.put, List.setIfInBounds_toArray, List.set_cons_zero, List.set_cons_succ])
          refine wpAnyH_take (i := 10) (v := ?vb11) (idx_of_drop rfl) (by kernel_rfl) (by kernel_rfl) (by kernel_rfl) (fun _ _ _ h => h) (Or.inl ⟨by rfl, ?yb11⟩) (by assumption) ?rb11
          case yb11 => (intro w hSw; go_simp <;> with_reducible rfl)
          (try simp only [Act.put, List.setIfInBounds_toArray, List.set_cons_zero, List.set_cons_succ])
          refine wpAnyH_done (by kernel_rfl) ?_ _
          rename_i hH; clear hH
          go_wp2_with fail
          go_roundw
          case rel => exact ⟨i, p, rfl, rfl, HF1.out, HBR.out.same hsc2, HF.out.trans hsc2 (fun _ _ e => e) (fun _ _ e => e.elim)⟩
          case measure => simp [intOf]; omega
        exact AllReadyH.nil
    · have HIJ : Hid (i = j) := (by have := HI.out; unfold Find1 at this; omega : i = j)
      have hi2 : (i : Int) ≤ b := by omega
      clear q1 q2
      go_wp2_with fail
      obtain ⟨wo, rfl⟩ : ∃ wo : World, wo = wr := ⟨_, rfl⟩
      obtain ⟨s, hse⟩ : ∃ s, i - m = s := ⟨_, rfl⟩
      have hst := find1_end (L := L) (Y := Y) (R := R) (x := x) (m := m) (b := b) (i := i) (s := s) (by have := HL.out; omega) (by have := HL.out; omega) HS.out (by
        have := HI.out
        rw [← HIJ.out] at this
        rw [HV.out]
        exact this) hse
      have HST := Lib.hid hst
      have HSE := Lib.hid (And.intro hse (show s ≤ Y.length by have := HL.out; omega))
      clear hse hst
      go_loopw [13] (fun v13 wr => ∃ k : Nat, v13 = .int .i64 k ∧ Hid (a ≤ k ∧ k ≤ a + s) ∧ Hid (BR g n cap wr (L ++ Y.take (k - a) ++ x :: Y.drop (k - a) ++ R)) ∧ Hid (FrG g w wr)) (fun v13 _ => a + s - (intOf v13).toNat)
      case atStart =>
        refine ⟨a, rfl, ⟨Nat.le_refl _, by omega⟩, ?_, HF.out⟩
        rw [Nat.sub_self]
        show BR _ _ _ _ _
        have := HBR.out
        rw [← HV.out] at this
        simpa using this
      case round =>
        obtain ⟨k, rfl, HK, HBK, HFK⟩ := hrel
        have k1 : (k : Int) + 1 ≤ i := by have h1 := HK.out; have h2 := HSE.out; have h3 := HL.out; omega
        by_cases hk : (k : Int) < (i : Int) - 1
        · obtain ⟨VK, hVK⟩ : ∃ V, L ++ Y.take (k - a) ++ x :: Y.drop (k - a) ++ R = V := ⟨_, rfl⟩
          rw [hVK] at HBK
          have HVK := Lib.hid hVK; clear hVK
          have HK1 : Hid (k + 1 < n ∧ k < a + s ∧ a ≤ k) := (by have h1 := HK.out; have h2 := HSE.out; have h3 := HL.out; omega : k + 1 < n ∧ k < a + s ∧ a ≤ k)
          have k2 : (k : Int) + 1 < n := by have := HK1.out; omega
          have k3 : (0 : Int) ≤ (k : Int) + 1 := by omega
          have k4 : IntKind.i64.wrap ((k : Int) + 1) = (k : Int) + 1 := by have := HL.out; rw [IntKind.wrap_i64]; omega
          have k5 : ((k : Int) + 1).toNat = k + 1 := by omega
          have k6 : (k : Int) < n := by omega
          have HBD : Hid (BR g n cap wr.drew VK) := HBK.out.same (Fr.refl _ wr).drew
          go_wp2_with fail
          refine wp_region_held_drew (S := fun _ => True) (by kernel_rfl) (by exact trivial) (fun hHeld => ?_)
          refine wpAnyH_take (i := 0) (v := ?vc1) (idx_of_drop rfl) (by kernel_rfl) (by kernel_rfl) (by kernel_rfl) (fun _ _ _ h => h) (Or.inl ⟨by rfl, ?yc1⟩) (by assumption) ?rc1
          case yc1 => (intro w hSw; go_simp <;> with_reducible rfl)
          (try simp only [Act.put, List.setIfInBounds_toArray, List.set_cons_zero, List.set_cons_succ])
          refine wpAnyH_take (i := 1) (v := ?vc2) (idx_of_drop rfl) (by kernel_rfl) (by kernel_rfl) (by kernel_rfl) (fun _ _ _ h => h) (Or.inl ⟨by rfl, ?yc2⟩) (by assumption) ?rc2
          case yc2 => (intro w hSw; go_simp <;> with_reducible rfl)
          (try simp only [Act.put, List.setIfInBounds_toArray, List.set_cons_zero, List.set_cons_succ])
          refine wpAnyH_take (i := 2) (v := ?vc3) (idx_of_drop rfl) (by kernel_rfl) (by kernel_rfl) (by kernel_rfl) (fun _ _ _ h => h) (Or.inl ⟨by rfl, ?yc3⟩) (by assumption) ?rc3
          case yc3 => (intro w hSw; go_simp <;> with_reducible rfl)
          (try simp only [Act.put, List.setIfInBounds_toArray, List.set_cons_zero, List.set_cons_succ])
          refine wpAnyH_take (i := 3) (v := ?vc4) (idx_of_drop rfl) (by kernel_rfl) (by kernel_rfl) (by kernel_rfl) (fun _ _ _ h => h) (Or.inl ⟨by rfl, ?yc4⟩) (by assumption) ?rc4
          case yc4 => (intro w hSw; go_simp <;> with_reducible rfl)
          (try simp only [Act.put, List.setIfInBounds_toArray, List.set_cons_zero, List.set_cons_succ])
          refine wpAnyH_take (i := 4) (v := ?vc5) (idx_of_drop rfl) (by kernel_rfl) (by kernel_rfl) (by kernel_rfl) (fun _ _ _ h => h) (Or.inl ⟨by rfl, ?yc5⟩) (by assumption) ?rc5
          case yc5 => (intro w hSw; go_simp <;> with_reducible rfl)
          (try simp only [Act.put, List.setIfInBounds_toArray, List.set_cons_zero, List.set_cons_succ])
          refine wpAnyH_take (i := 5) (v := ?vc6) (idx_of_drop rfl) (by kernel_rfl) (by kernel_rfl) (by kernel_rfl) (fun _ _ _ h => h) (Or.inl ⟨by rfl, ?yc6⟩) (by assumption) ?rc6
          case yc6 => (intro w hSw; go_simp <;> with_reducible rfl)
          (try simp only [Act.put, List.setIfInBounds_toArray, List.set_cons_zero, List.set_cons_succ])
          refine wpAnyH_take (i := 6) (v := ?vc7) (idx_of_drop rfl) (by kernel_rfl) (by kernel_rfl) (by kernel_rfl) (fun _ _ _ h => h) (Or.inl ⟨by rfl, ?yc7⟩) (by assumption) ?rc7
          case yc7 => (intro w hSw; go_simp <;> with_reducible rfl)
          (try simp only [Act.put, List.setIfInBounds_toArray, List.set_cons_zero, List.set_cons_succ])
          refine wpAnyH_take (i := 7) (v := ?vc8) (idx_of_drop rfl) (by kernel_rfl) (by kernel_rfl) (by kernel_rfl) (fun _ _ _ h => h) (Or.inl ⟨by rfl, ?yc8⟩) (by assumption) ?rc8
          case yc8 => (intro w hSw; go_simp <;> with_reducible rfl)
          (try simp only [Act.put, List.setIfInBounds_toArray, List.set_cons_zero, List.set_cons_succ])
          refine wpAnyH_take (i := 8) (v := ?vc9) (idx_of_drop rfl) (by kernel_rfl) (by kernel_rfl) (by kernel_rfl) (fun _ _ _ h => h) (Or.inl ⟨by rfl, ?yc9⟩) (by assumption) ?rc9
          case yc9 => (intro w hSw; go_simp <;> with_reducible rfl)
          (try simp only [Act.put, List.setIfInBounds_toArray, List.set_cons_zero, List.set_cons_succ])
          refine wpAnyH_take (i := 10) (v := ?vc10) (idx_of_drop rfl) (by kernel_rfl) (by kernel_rfl) (by kernel_rfl) (fun _ _ _ h => h) (Or.inl ⟨by rfl, ?yc10⟩) (by assumption) ?rc10
          case yc10 => (intro w hSw; go_simp <;> with_reducible rfl)
          (try simp only [Act.put, List.setIfInBounds_toArray, List.set_cons_zero, List.set_cons_succ])
          refine wpAnyH_take (i := 11) (v := ?vc11) (idx_of_drop rfl) (by kernel_rfl) (by kernel_rfl) (by kernel_rfl) (fun _ _ _ h => h) (Or.inl ⟨by rfl, ?yc11⟩) (by assumption) ?rc11
          case yc11 => (intro w hSw; go_simp <;> with_reducible rfl)
          (try simp only [Act.put, List.setIfInBounds_toArray, List.set_cons_zero, List.set_cons_succ])
          refine wpAnyH_take (i := 12) (v := ?vc12) (idx_of_drop rfl) (by kernel_rfl) (by kernel_rfl) (by kernel_rfl) (fun _ _ _ h => h) (Or.inl ⟨by rfl, ?yc12⟩) (by assumption) ?rc12
          case yc12 => (intro w hSw; go_simp <;> with_reducible rfl)
          (try simp only [Act.put, List.setIfInBounds_toArray, List.set_cons_zero, List.set_cons_succ])
          refine wpAnyH_ready (rs := [9, 13]) (by kernel_rfl) (by simp) ?_
          refine AllReadyH.cons (idx_of_drop rfl) (fun K hK => ?sc13) ?mc13
          case sc13 =>
            rw [if_pos (by rfl)]
            refine wp_load_mid 33 (.tmp 69) rfl g _ (by rfl) _ _ (HBD.out.range (j := k + 1) (by have := HK1.out; omega)).1 Tryd.underlying33 rfl info33s ?_
            refine hK.out _ _ (by exact trivial) (fun hHeld => ?_)
            clear hK K
            (try simp only [Act.put, List.setIfInBounds_toArray, List.set_cons_zero, List.set_cons_succ])
            refine wpAnyH_ready (rs := [13]) (by kernel_rfl) (by simp) ?_
            refine AllReadyH.cons (idx_of_drop rfl) (fun K hK => ?sc14) ?mc14
            case sc14 =>
              rw [if_pos (by rfl)]
              refine wp_load_mid 33 (.tmp 73) rfl g _ (by rfl) _ _ (HBD.out.range (j := k) (by have := HK1.out; omega)).1 Tryd.underlying33 rfl info33s ?_
              refine hK.out _ _ (by exact trivial) (fun hHeld => ?_)
              clear hK K
              (try simp only [Act.put, List.setIfInBounds_toArray, List.set_cons_zero, List.set_cons_succ])
              refine wpAnyH_take (i := 14) (v := ?vc15) (idx_of_drop rfl) (by kernel_rfl) (by kernel_rfl) (by kernel_rfl) (fun _ _ _ h => h) (Or.inl ⟨by rfl, ?yc15⟩) (by assumption) ?rc15
              case yc15 => (intro w hSw; go_simp <;> with_reducible rfl)
              (try simp only [Act.put, List.setIfInBounds_toArray, List.set_cons_zero, List.set_cons_succ])
              refine wpAnyH_ready (rs := [15]) (by kernel_rfl) (by simp) ?_
              refine AllReadyH.cons (idx_of_drop rfl) (fun K hK => ?sc16) ?mc16
              case sc16 =>
                rw [if_pos (by rfl)]
                refine wp_store_mid 33 (.tmp 75) (.tmp 70) rfl g ((k) * 4) (VK.getD (k + 1) default).cells.toArray (by rfl) (by rfl) (HBD.out.range (j := k) (by have := HK1.out; omega)).2 info33s (all_oneCell_toArray (one4 _)) ?_
                refine hK.out _ _ (by exact trivial) (fun hHeld => ?_)
                clear hK K
                (try simp only [Act.put, List.setIfInBounds_toArray, List.set_cons_zero, List.set_cons_succ])
                refine wpAnyH_take (i := 16) (v := ?vc17) (idx_of_drop rfl) (by kernel_rfl) (by kernel_rfl) (by kernel_rfl) (fun _ _ _ h => h) (Or.inl ⟨by rfl, ?yc17⟩) (by assumption) ?rc17
                case yc17 => (intro w hSw; go_simp <;> with_reducible rfl)
                (try simp only [Act.put, List.setIfInBounds_toArray, List.set_cons_zero, List.set_cons_succ])
                refine wpAnyH_ready (rs := [17]) (by kernel_rfl) (by simp) ?_
                refine AllReadyH.cons (idx_of_drop rfl) (fun K hK => ?sc18) ?mc18
                case sc18 =>
                  rw [if_pos (by rfl)]
                  refine wp_store_mid 33 (.tmp 76) (.tmp 74) rfl g ((k + 1) * 4) (VK.getD (k) default).cells.toArray (by rfl) (by rfl) ((HBD.out.put (j := k) (by have := HK1.out; omega) (VK.getD (k + 1) default)).range (j := k + 1) (by have := HK1.out; omega)).2 info33s (all_oneCell_toArray (one4 _)) ?_
                  refine hK.out _ _ (by exact trivial) (fun hHeld => ?_)
                  clear hK K
                  (try simp only [Act.put, List.setIfInBounds_toArray, List.set_cons_zero, List.set_cons_succ])
                  refine wpAnyH_done (by kernel_rfl) ?_ _
                  rename_i hH; clear hH
                  go_wp2_with fail
                  go_roundw
                  case rel =>
                    refine ⟨k + 1, by go_num, (by have := HK1.out; omega : a ≤ k + 1 ∧ k + 1 ≤ a + s), ?_, frg_setCells _ _ _ _ (frg_setCells _ _ _ _ HFK.out.drew)⟩
                    show BR _ _ _ _ _
                    have hsw := HBD.out.swap (i := k) (j := k + 1) (by have := HK1.out; omega) (by have := HK1.out; omega)
                    have e : swl VK k (k + 1) = L ++ Y.take (k + 1 - a) ++ x :: Y.drop (k + 1 - a) ++ R := by
                      have h1 := HK1.out
                      have h2 := HSE.out
                      have h3 := sw_step (L := L) (Y := Y) (R := R) (x := x) (a := a) (t := k - a) HL.out.2.2.2.1 (by omega)
                      rw [show a + (k - a) = k by omega, show k - a + 1 = k + 1 - a by omega, HVK.out] at h3
                      exact h3
                    rw [← e]
                    exact hsw
                  case measure => have := HK1.out; simp [intOf]; omega
                exact AllReadyH.nil
              exact AllReadyH.nil
            exact AllReadyH.nil
          refine AllReadyH.cons (idx_of_drop rfl) (fun K hK => ?sc19) ?mc19
          case sc19 =>
            rw [if_pos (by rfl)]
            refine wp_load_mid 33 (.tmp 73) rfl g _ (by rfl) _ _ (HBD.out.range (j := k) (by have := HK1.out; omega)).1 Tryd.underlying33 rfl info33s ?_
            refine hK.out _ _ (by exact trivial) (fun hHeld => ?_)
            clear hK K
            (try simp only [Act.put, List.setIfInBounds_toArray, List.set_cons_zero, List.set_cons_succ])
            refine wpAnyH_ready (rs := [9]) (by kernel_rfl) (by simp) ?_
            refine AllReadyH.cons (idx_of_drop rfl) (fun K hK => ?sc20) ?mc20
            case sc20 =>
              rw [if_pos (by rfl)]
              refine wp_load_mid 33 (.tmp 69) rfl g _ (by rfl) _ _ (HBD.out.range (j := k + 1) (by have := HK1.out; omega)).1 Tryd.underlying33 rfl info33s ?_
              refine hK.out _ _ (by exact trivial) (fun hHeld => ?_)
              clear hK K
              (try simp only [Act.put, List.setIfInBounds_toArray, List.set_cons_zero, List.set_cons_succ])
              refine wpAnyH_take (i := 14) (v := ?vc21) (idx_of_drop rfl) (by kernel_rfl) (by kernel_rfl) (by kernel_rfl) (fun _ _ _ h => h) (Or.inl ⟨by rfl, ?yc21⟩) (by assumption) ?rc21
              case yc21 => (intro w hSw; go_simp <;> with_reducible rfl)
              (try simp only [Act.put, List.setIfInBounds_toArray, List.set_cons_zero, List.set_cons_succ])
              refine wpAnyH_ready (rs := [15]) (by kernel_rfl) (by simp) ?_
              refine AllReadyH.cons (idx_of_drop rfl) (fun K hK => ?sc22) ?mc22
              case sc22 =>
                rw [if_pos (by rfl)]
                refine wp_store_mid 33 (.tmp 75) (.tmp 70) rfl g ((k) * 4) (VK.getD (k + 1) default).cells.toArray (by rfl) (by rfl) (HBD.out.range (j := k) (by have := HK1.out; omega)).2 info33s (all_oneCell_toArray (one4 _)) ?_
                refine hK.out _ _ (by exact trivial) (fun hHeld => ?_)
                clear hK K
                (try simp only [Act.put, List.setIfInBounds_toArray, List.set_cons_zero, List.set_cons_succ])
                refine wpAnyH_take (i := 16) (v := ?vc23) (idx_of_drop rfl) (by kernel_rfl) (by kernel_rfl) (by kernel_rfl) (fun _ _ _ h => h) (Or.inl ⟨by rfl, ?yc23⟩) (by assumption) ?rc23
                case yc23 => (intro w hSw; go_simp <;> with_reducible rfl)
                (try simp only [Act.put, List.setIfInBounds_toArray, List.set_cons_zero, List.set_cons_succ])
                refine wpAnyH_ready (rs := [17]) (by kernel_rfl) (by simp) ?_
                refine AllReadyH.cons (idx_of_drop rfl) (fun K hK => ?sc24) ?mc24
                case sc24 =>
                  rw [if_pos (by rfl)]
                  refine wp_store_mid 33 (.tmp 76) (.tmp 74) rfl g ((k + 1) * 4) (VK.getD (k) default).cells.toArray (by rfl) (by rfl) ((HBD.out.put (j := k) (by have := HK1.out; omega) (VK.getD (k + 1) default)).range (j := k + 1) (by have := HK1.out; omega)).2 info33s (all_oneCell_toArray (one4 _)) ?_
                  refine hK.out _ _ (by exact trivial) (fun hHeld => ?_)
                  clear hK K
                  (try simp only [Act.put, List.setIfInBounds_toArray, List.set_cons_zero, List.set_cons_succ])
                  refine wpAnyH_done (by kernel_rfl) ?_ _
                  rename_i hH; clear hH
                  go_wp2_with fail
                  go_roundw
                  case rel =>
                    refine ⟨k + 1, by go_num, (by have := HK1.out; omega : a ≤ k + 1 ∧ k + 1 ≤ a + s), ?_, frg_setCells _ _ _ _ (frg_setCells _ _ _ _ HFK.out.drew)⟩
                    show BR _ _ _ _ _
                    have hsw := HBD.out.swap (i := k) (j := k + 1) (by have := HK1.out; omega) (by have := HK1.out; omega)
                    have e : swl VK k (k + 1) = L ++ Y.take (k + 1 - a) ++ x :: Y.drop (k + 1 - a) ++ R := by
                      have h1 := HK1.out
                      have h2 := HSE.out
                      have h3 := sw_step (L := L) (Y := Y) (R := R) (x := x) (a := a) (t := k - a) HL.out.2.2.2.1 (by omega)
                      rw [show a + (k - a) = k by omega, show k - a + 1 = k + 1 - a by omega, HVK.out] at h3
                      exact h3
                    rw [← e]
                    exact hsw
                  case measure => have := HK1.out; simp [intOf]; omega
                exact AllReadyH.nil
              exact AllReadyH.nil
            exact AllReadyH.nil
          exact AllReadyH.nil
        · have HKE : Hid (k - a = s) := (by have h1 := HK.out; have h2 := HSE.out; have h3 := HL.out; omega : k - a = s)
          go_wp2_with fail
          refine bodyPost_ret (results_none rfl _ _ _) rfl ?_
          refine ⟨rfl, _, HST.out, ?_, HFK.out⟩
          have := HBK.out
          rw [HKE.out] at this
          simpa using this
end Go.Proofs.YtlgonkopojancaaDoor
