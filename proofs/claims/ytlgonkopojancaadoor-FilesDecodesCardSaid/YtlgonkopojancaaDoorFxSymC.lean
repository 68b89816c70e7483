/- The walk of symMerge: one element ahead. -/
/- The walk of symMerge: one element behind. -/
/- The walk of symMerge: two runs. -/
import Derived.Test.YtlgonkopojancaaDoorFxRot
namespace Go.Proofs.YtlgonkopojancaaDoor
open Go.RowKit

/-- Sort's closure as a value -/
def cmpV : Value := .func (.func 35) #[] #[]
theorem enters35 : ∀ args w, (callFunc 35 args).run Tryd.prog w = .ok (.enter 35 args) w := enters_of Tryd.func35 (by kernel_rfl) rfl
theorem cmp_told (u v : FV) (w : World) : Calls Tryd.prog 35 #[.agg u.cells.toArray, .agg v.cells.toArray] w fun e w' => e = .returned (.int .i64 (cmpI u.f.name v.f.name)) ∧ Same w w' := by
  refine (sort1_any u v w).mono ?_
  rintro e w' ⟨rfl, rfl⟩
  exact ⟨rfl, ((Fr.refl _ w).alloc _).alloc _⟩
theorem range2 {g n cap p q : Nat} {w : World} {vs : List FV} (h : BR g n cap w vs) (hp : p < n) (hq : q < n) : ∀ w', Same w w' → w'.rangeAt g (p * 4) (vs.getD p default).cells ∧ w'.rangeAt g (q * 4) (vs.getD q default).cells :=
  fun _ f => ⟨rangeAt_same (h.range hp).1 f, rangeAt_same (h.range hq).1 f⟩
/-- what symMerge leaves -/
def SymPost (g n cap : Nat) (L X Y R : List FV) (w : World) (e : Ending) (w' : World) : Prop :=
  e = .returned (.tuple #[]) ∧ ∃ Z, StableOf FV.key (X ++ Y) Z ∧ BR g n cap w' (L ++ Z ++ R) ∧ FrG g w w'
def lt (u v : FV) : Bool := lessB u.f.name v.f.name
/-- where the search for the place stands -/
def Find1 (V : List FV) (x : FV) (m b i j : Nat) : Prop := m ≤ i ∧ i ≤ j ∧ j ≤ b ∧ (i = m ∨ lt (V.getD (i - 1) default) x = true) ∧ (j = b ∨ lt (V.getD j default) x = false)

theorem sw_step {L Y R : List FV} {x : FV} {a t : Nat} (ha : L.length = a) (ht : t < Y.length) : swl (L ++ Y.take t ++ x :: Y.drop t ++ R) (a + t) (a + t + 1) = L ++ Y.take (t + 1) ++ x :: Y.drop (t + 1) ++ R := by
  have hl : (L ++ Y.take t).length = a + t := by rw [List.length_append, List.length_take]; omega
  have hd : Y.drop t = Y[t] :: Y.drop (t + 1) := List.drop_eq_getElem_cons ht
  have e : L ++ Y.take t ++ x :: Y.drop t ++ R = (L ++ Y.take t) ++ x :: ([] ++ Y[t] :: (Y.drop (t + 1) ++ R)) := by rw [hd]; simp only [List.append_assoc, List.cons_append, List.nil_append]
  rw [e, swl_app hl (by simp), List.take_succ_eq_append_getElem ht]
  simp only [List.append_assoc, List.cons_append, List.nil_append]
theorem find1_end {L Y R : List FV} {x : FV} {m b i s : Nat} (hm : L.length + 1 = m) (hb : m + Y.length = b) (hs : Srt FV.key Y) (h : Find1 (L ++ [x] ++ Y ++ R) x m b i i) (hse : i - m = s) : StableOf FV.key ([x] ++ Y) (Y.take s ++ x :: Y.drop s) := by
  obtain ⟨h1, _, h3, h4, h5⟩ := h
  have hsl : s ≤ Y.length := by omega
  have hg : ∀ j (hj : j < Y.length), (L ++ [x] ++ Y ++ R).getD (m + j) default = Y[j] := by
    intro j hj
    rw [List.getD_eq_getElem?_getD, List.append_assoc, List.getElem?_append_right (by simp; omega)]
    have e : m + j - (L ++ [x]).length = j := by simp; omega
    rw [e, List.getElem?_append_left hj, List.getElem?_eq_getElem hj]
    rfl
  have hsp : Y = Y.take s ++ Y.drop s := (List.take_append_drop s Y).symm
  have hs' : Srt FV.key (Y.take s ++ Y.drop s) := by rw [← hsp]; exact hs
  have hx : Srt FV.key [x] := List.pairwise_singleton _ _
  have hlss : Lss FV.key (Y.take s) [x] := by
    refine lss_of FV.key (srt_left FV.key hs') hx ?_
    rcases Nat.eq_zero_or_pos s with h0 | h0
    · left; rw [h0]; rfl
    · refine .inr (.inr ⟨Y[s - 1]'(by omega), x, Y.take (s - 1), [], ?_, rfl, ?_⟩)
      · have := List.take_succ_eq_append_getElem (l := Y) (i := s - 1) (by omega)
        rw [show s - 1 + 1 = s by omega] at this
        exact this
      · have := h4.resolve_left (by omega)
        rw [show i - 1 = m + (s - 1) by omega, hg _ (by omega)] at this
        exact this
  have hleq : Leq FV.key [x] (Y.drop s) := by
    refine leq_of FV.key hx (srt_right FV.key hs') ?_
    by_cases h0 : s = Y.length
    · exact .inr (.inl (List.drop_of_length_le (by omega)))
    · refine .inr (.inr ⟨x, Y[s]'(by omega), [], Y.drop (s + 1), rfl, List.drop_eq_getElem_cons (by omega), ?_⟩)
      have := h5.resolve_left (by omega)
      rw [show i = m + s by omega, hg _ (by omega)] at this
      exact this
  have h1' : StableOf FV.key ([] ++ Y.take s) (Y.take s) := stable_srt FV.key (srt_left FV.key hs')
  have h2' : StableOf FV.key ([x] ++ Y.drop s) (x :: Y.drop s) := stable_srt FV.key (srt_app FV.key hx (srt_right FV.key hs') hleq)
  have := stable_parts FV.key (X1 := []) (X2 := [x]) (Y1 := Y.take s) (Y2 := Y.drop s) hx hs' hlss (fun _ h => by simp at h) h1' h2'
  rw [List.take_append_drop] at this
  exact this

set_option linter.unusedSimpArgs false in
set_option maxRecDepth 100000 in
set_option maxHeartbeats 8000000 in
theorem sym_one (g n cap a m b : Nat) (x : FV) (L Y R : List FV) (w : World) (h : BR g n cap w (L ++ [x] ++ Y ++ R)) (h63 : n ≤ 1000000) (hY : 0 < Y.length) (ha : L.length = a) (hm : a + 1 = m) (hb : m + Y.length = b) (hs : Srt FV.key Y) :
    Calls Tryd.prog 58 #[.slice (some ⟨g, 0, none⟩) n cap, .int .i64 a, .int .i64 m, .int .i64 b, cmpV] w (SymPost g n cap L [x] Y R w) := by
  have hl := h.len
  simp only [List.length_append, List.length_singleton] at hl
  obtain ⟨V, hV⟩ : ∃ V, L ++ [x] ++ Y ++ R = V := ⟨_, rfl⟩
  have hxa : V.getD a default = x := by rw [← hV]; simp only [List.append_assoc]; exact getD_app ha
  rw [hV] at h
  have e35 := enters35
  have HB := Lib.hid h; have HL := Lib.hid (And.intro hl (And.intro h63 (And.intro hY (And.intro ha (And.intro hm hb))))); have HV := Lib.hid hV; have HS := Lib.hid hs; have HXA := Lib.hid hxa
  have i1 : (m : Int) - (a : Int) = 1 := by omega
  have i1b : (((m : Int) - (a : Int)) == 1) = true := by rw [i1]; rfl
  have I1 := Lib.hid i1
  have i2 : (m : Int) < b := by omega
  have i3 : (b : Int) ≤ 1000000 := by omega
  have i4 : (a : Int) < m := by omega
  have i5 : (b : Int) ≤ n := by omega
  clear h hl h63 hY ha hm hb hV hs hxa i1
  unfold cmpV
  go_enter Tryd.func58, Tryd.ntmps58
  go_wp2_with fail
  go_loopw [10, 11, 12] (fun v10 v11 _ wr => ∃ i j : Nat, v10 = .int .i64 i ∧ v11 = .int .i64 j ∧ Hid (Find1 V x m b i j) ∧ Hid (BR g n cap wr V) ∧ Hid (FrG g w wr)) (fun v10 v11 _ _ => (intOf v11).toNat - (intOf v10).toNat)
  case atStart => exact ⟨m, b, rfl, rfl, ⟨Nat.le_refl _, by omega, Nat.le_refl _, .inl rfl, .inl rfl⟩, HB.out, Fr.refl _ _⟩
  case round =>
    obtain ⟨i, j, rfl, rfl, HI, HBR, HF⟩ := hrel
    have q1 : (i : Int) ≤ j := by have := HI.out; unfold Find1 at this; omega
    have q2 : (j : Int) ≤ b := by have := HI.out; unfold Find1 at this; omega
    have q3 : (m : Int) ≤ i := by have := HI.out; unfold Find1 at this; omega
    by_cases hij : (i : Int) < j
    · obtain ⟨p, hp⟩ : ∃ p, (i + j) / 2 = p := ⟨_, rfl⟩
      have p1 : ((i : Int) + (j : Int)) / 2 = (p : Int) := by omega
      have p2 : (p : Int) < j := by omega
      have p3 : (i : Int) ≤ p := by omega
      have p4 : (p : Int) < n := by omega
      have p5 : (a : Int) < n := by omega
      have P0 := Lib.hid hp; clear hp
      have HS0 := Lib.hid (range2 (p := p) (q := a) HBR.out (by omega) (by omega))
      by_cases hlt : lt (V.getD p default) x = true
      · have HC : Hid (cmpI (V.getD p default).f.name (V.getD a default).f.name = -1) := (by rw [HXA.out]; exact cmp_neg hlt : cmpI (V.getD p default).f.name (V.getD a default).f.name = -1)
        have HF1 : Hid (Find1 V x m b (p + 1) j) := (by
          obtain ⟨h1, h2, h3, h4, h5⟩ := HI.out
          exact ⟨by omega, by omega, h3, .inr (by rw [Nat.add_sub_cancel]; exact hlt), h5⟩ : Find1 V x m b (p + 1) j)
        clear hlt
        go_wp2_with fail
        refine wp_region_held_drew (S := fun w' => w'.rangeAt g ((p) * 4) (V.getD (p) default).cells ∧ w'.rangeAt g ((a) * 4) (V.getD (a) default).cells) (by kernel_rfl) (by exact HS0.out _ (Fr.refl _ _).drew) (fun hHeld => ?_)
        refine wpAnyH_take (i := 0) (v := ?va1) (idx_of_drop rfl) (by kernel_rfl) (by kernel_rfl) (by kernel_rfl) (fun _ _ _ h => h) (Or.inl ⟨by rfl, ?ya1⟩) (by assumption) ?ra1
        case ya1 => (intro w hSw; go_simp <;> with_reducible rfl)
        (try simp only [Act.put, List.setIfInBounds_toArray, List.set_cons_zero, List.set_cons_succ])
        refine wpAnyH_take (i := 1) (v := ?va2) (idx_of_drop rfl) (by kernel_rfl) (by kernel_rfl) (by kernel_rfl) (fun _ _ _ h => h) (Or.inl ⟨by rfl, ?ya2⟩) (by assumption) ?ra2
        case ya2 => (intro w hSw; go_simp <;> with_reducible rfl)
        (try simp only [Act.put, List.setIfInBounds_toArray, List.set_cons_zero, List.set_cons_succ])
        refine wpAnyH_take (i := 2) (v := ?va3) (idx_of_drop rfl) (by kernel_rfl) (by kernel_rfl) (by kernel_rfl) (fun _ _ _ h => h) (Or.inl ⟨by rfl, ?ya3⟩) (by assumption) ?ra3
        case ya3 => (intro w hSw; go_simp <;> with_reducible rfl)
        (try simp only [Act.put, List.setIfInBounds_toArray, List.set_cons_zero, List.set_cons_succ])
        refine wpAnyH_take (i := 3) (v := ?va4) (idx_of_drop rfl) (by kernel_rfl) (by kernel_rfl) (by kernel_rfl) (fun _ _ _ h => h) (Or.inl ⟨by rfl, ?ya4⟩) (by assumption) ?ra4
        case ya4 => (intro w hSw; go_simp <;> with_reducible rfl)
        (try simp only [Act.put, List.setIfInBounds_toArray, List.set_cons_zero, List.set_cons_succ])
        refine wpAnyH_take (i := 4) (v := .agg (V.getD (p) default).cells.toArray) (idx_of_drop rfl) (by kernel_rfl) (by kernel_rfl) (by kernel_rfl) (fun _ _ _ h => h) (yieldsIf_load_mid (by rfl) 33 (.tmp 43) rfl g ((p) * 4) (by rfl) (V.getD (p) default).cells _ (fun w hw => hw.1) Tryd.underlying33 rfl info33s) (by assumption) ?ra5
        (try simp only [Act.put, List.setIfInBounds_toArray, List.set_cons_zero, List.set_cons_succ])
        refine wpAnyH_take (i := 5) (v := ?va6) (idx_of_drop rfl) (by kernel_rfl) (by kernel_rfl) (by kernel_rfl) (fun _ _ _ h => h) (Or.inl ⟨by rfl, ?ya6⟩) (by assumption) ?ra6
        case ya6 => (intro w hSw; go_simp <;> with_reducible rfl)
        (try simp only [Act.put, List.setIfInBounds_toArray, List.set_cons_zero, List.set_cons_succ])
        refine wpAnyH_take (i := 6) (v := ?va7) (idx_of_drop rfl) (by kernel_rfl) (by kernel_rfl) (by kernel_rfl) (fun _ _ _ h => h) (Or.inl ⟨by rfl, ?ya7⟩) (by assumption) ?ra7
        case ya7 => (intro w hSw; go_simp <;> with_reducible rfl)
        (try simp only [Act.put, List.setIfInBounds_toArray, List.set_cons_zero, List.set_cons_succ])
        refine wpAnyH_take (i := 7) (v := ?va8) (idx_of_drop rfl) (by kernel_rfl) (by kernel_rfl) (by kernel_rfl) (fun _ _ _ h => h) (Or.inl ⟨by rfl, ?ya8⟩) (by assumption) ?ra8
        case ya8 => (intro w hSw; go_simp <;> with_reducible rfl)
        (try simp only [Act.put, List.setIfInBounds_toArray, List.set_cons_zero, List.set_cons_succ])
        refine wpAnyH_take (i := 8) (v := .agg (V.getD (a) default).cells.toArray) (idx_of_drop rfl) (by kernel_rfl) (by kernel_rfl) (by kernel_rfl) (fun _ _ _ h => h) (yieldsIf_load_mid (by rfl) 33 (.tmp 47) rfl g ((a) * 4) (by rfl) (V.getD (a) default).cells _ (fun w hw => hw.2) Tryd.underlying33 rfl info33s) (by assumption) ?ra9
        (try simp only [Act.put, List.setIfInBounds_toArray, List.set_cons_zero, List.set_cons_succ])
        refine wpAnyH_ready (rs := [9]) (by kernel_rfl) (by simp) ?_
        refine AllReadyH.cons (idx_of_drop rfl) (fun K hK => ?sa10) ?ma10
        case sa10 =>
          go_simp
          refine (cmp_told (V.getD (p) default) (V.getD (a) default) _).mono ?_
          rintro e wc ⟨rfl, hsc⟩
          have hsc2 := (Fr.refl (fun _ => False) wr).drew.trans' hsc
          rw [HC.out]
          refine hK.out _ _ (by exact HS0.out _ hsc2) (fun hHeld => ?_)
          clear hK K
          (try simp only [Act.put, List.setIfInBounds_toArray, List.set_cons_zero, List.set_cons_succ])
          refine wpAnyH_take (i := 10) (v := ?va11) (idx_of_drop rfl) (by kernel_rfl) (by kernel_rfl) (by kernel_rfl) (fun _ _ _ h => h) (Or.inl ⟨by rfl, ?ya11⟩) (by assumption) ?ra11
          case ya11 => (intro w hSw; go_simp <;> with_reducible rfl)
          (try simp only [Act.put, List.setIfInBounds_toArray, List.set_cons_zero, List.set_cons_succ])
          refine wpAnyH_done (by kernel_rfl) ?_ _
          rename_i hH; clear hH
          go_wp2_with fail
          go_roundw
          case rel => exact ⟨p + 1, j, by go_num, rfl, HF1.out, HBR.out.same hsc2, HF.out.trans hsc2 (fun _ _ e => e) (fun _ _ e => e.elim)⟩
          case measure => simp [intOf]; omega
        exact AllReadyH.nil
      · have hlt2 : lt (V.getD p default) x = false := by simpa using hlt
        obtain ⟨q, hq⟩ : ∃ q, cmpI (V.getD p default).f.name (V.getD a default).f.name = q := ⟨_, rfl⟩
        have hq0 : 0 ≤ q := by rw [← hq, HXA.out]; exact cmp_pos hlt2
        have hq1 : ¬ q < 0 := by omega
        have HC := Lib.hid hq
        have HF1 : Hid (Find1 V x m b i p) := (by
          obtain ⟨h1, h2, h3, h4, h5⟩ := HI.out
          exact ⟨h1, by omega, by omega, h4, .inr hlt2⟩ : Find1 V x m b i p)
        clear hlt hlt2 hq hq0
        go_wp2_with fail
        refine wp_region_held_drew (S := fun w' => w'.rangeAt g ((p) * 4) (V.getD (p) default).cells ∧ w'.rangeAt g ((a) * 4) (V.getD (a) default).cells) (by kernel_rfl) (by exact HS0.out _ (Fr.refl _ _).drew) (fun hHeld => ?_)
        refine wpAnyH_take (i := 0) (v := ?vb1) (idx_of_drop rfl) (by kernel_rfl) (by kernel_rfl) (by kernel_rfl) (fun _ _ _ h => h) (Or.inl ⟨by rfl, ?yb1⟩) (by assumption) ?rb1
        case yb1 => (intro w hSw; go_simp <;> with_reducible rfl)
        (try simp only [Act.put, List.setIfInBounds_toArray, List.set_cons_zero, List.set_cons_succ])
        refine wpAnyH_take (i := 1) (v := ?vb2) (idx_of_drop rfl) (by kernel_rfl) (by kernel_rfl) (by kernel_rfl) (fun _ _ _ h => h) (Or.inl ⟨by rfl, ?yb2⟩) (by assumption) ?rb2
        case yb2 => (intro w hSw; go_simp <;> with_reducible rfl)
        (try simp only [Act.put, List.setIfInBounds_toArray, List.set_cons_zero, List.set_cons_succ])
        refine wpAnyH_take (i := 2) (v := ?vb3) (idx_of_drop rfl) (by kernel_rfl) (by kernel_rfl) (by kernel_rfl) (fun _ _ _ h => h) (Or.inl ⟨by rfl, ?yb3⟩) (by assumption) ?rb3
        case yb3 => (intro w hSw; go_simp <;> with_reducible rfl)
        (try simp only [Act.put, List.setIfInBounds_toArray, List.set_cons_zero, List.set_cons_succ])
        refine wpAnyH_take (i := 3) (v := ?vb4) (idx_of_drop rfl) (by kernel_rfl) (by kernel_rfl) (by kernel_rfl) (fun _ _ _ h => h) (Or.inl ⟨by rfl, ?yb4⟩) (by assumption) ?rb4
        case yb4 => (intro w hSw; go_simp <;> with_reducible rfl)
        (try simp only [Act.put, List.setIfInBounds_toArray, List.set_cons_zero, List.set_cons_succ])
        refine wpAnyH_take (i := 4) (v := .agg (V.getD (p) default).cells.toArray) (idx_of_drop rfl) (by kernel_rfl) (by kernel_rfl) (by kernel_rfl) (fun _ _ _ h => h) (yieldsIf_load_mid (by rfl) 33 (.tmp 43) rfl g ((p) * 4) (by rfl) (V.getD (p) default).cells _ (fun w hw => hw.1) Tryd.underlying33 rfl info33s) (by assumption) ?rb5
        (try simp only [Act.put, List.setIfInBounds_toArray, List.set_cons_zero, List.set_cons_succ])
        refine wpAnyH_take (i := 5) (v := ?vb6) (idx_of_drop rfl) (by kernel_rfl) (by kernel_rfl) (by kernel_rfl) (fun _ _ _ h => h) (Or.inl ⟨by rfl, ?yb6⟩) (by assumption) ?rb6
        case yb6 => (intro w hSw; go_simp <;> with_reducible rfl)
        (try simp only [Act.put, List.setIfInBounds_toArray, List.set_cons_zero, List.set_cons_succ])
        refine wpAnyH_take (i := 6) (v := ?vb7) (idx_of_drop rfl) (by kernel_rfl) (by kernel_rfl) (by kernel_rfl) (fun _ _ _ h => h) (Or.inl ⟨by rfl, ?yb7⟩) (by assumption) ?rb7
        case yb7 => (intro w hSw; go_simp <;> with_reducible rfl)
        (try simp only [Act.put, List.setIfInBounds_toArray, List.set_cons_zero, List.set_cons_succ])
        refine wpAnyH_take (i := 7) (v := ?vb8) (idx_of_drop rfl) (by kernel_rfl) (by kernel_rfl) (by kernel_rfl) (fun _ _ _ h => h) (Or.inl ⟨by rfl, ?yb8⟩) (by assumption) ?rb8
        case yb8 => (intro w hSw; go_simp <;> with_reducible rfl)
        (try simp only [Act.put, List.setIfInBounds_toArray, List.set_cons_zero, List.set_cons_succ])
        refine wpAnyH_take (i := 8) (v := .agg (V.getD (a) default).cells.toArray) (idx_of_drop rfl) (by kernel_rfl) (by kernel_rfl) (by kernel_rfl) (fun _ _ _ h => h) (yieldsIf_load_mid (by rfl) 33 (.tmp 47) rfl g ((a) * 4) (by rfl) (V.getD (a) default).cells _ (fun w hw => hw.2) Tryd.underlying33 rfl info33s) (by assumption) ?rb9
        (try simp only [Act.put, List.setIfInBounds_toArray, List.set_cons_zero, List.set_cons_succ])
        refine wpAnyH_ready (rs := [9]) (by kernel_rfl) (by simp) ?_
        refine AllReadyH.cons (idx_of_drop rfl) (fun K hK => ?sb10) ?mb10
        case sb10 =>
          go_simp
          refine (cmp_told (V.getD (p) default) (V.getD (a) default) _).mono ?_
          rintro e wc ⟨rfl, hsc⟩
          have hsc2 := (Fr.refl (fun _ => False) wr).drew.trans' hsc
          rw [HC.out]
          refine hK.out _ _ (by exact HS0.out _ hsc2) (fun hHeld => ?_)
          clear hK K
          (try simp only [Act.put, List.setIfInBounds_toArray, List.set_cons_zero, List.set_cons_succ])
          refine wpAnyH_take (i := 10) (v := ?vb11) (idx_of_drop rfl) (by kernel_rfl) (by kernel_rfl) (by kernel_rfl) (fun _ _ _ h => h) (Or.inl ⟨by rfl, ?yb11⟩) (by assumption) ?rb11
          case yb11 => (intro w hSw; go_simp <;> with_reducible rfl)
          (try simp only [Act.put, List.setIfInBounds_toArray, List.set_cons_zero, List.set_cons_succ])
          refine wpAnyH_done (by kernel_rfl) ?_ _
          rename_i hH; clear hH
          go_wp2_with fail
          go_roundw
          case rel => exact ⟨i, p, rfl, rfl, HF1.out, HBR.out.same hsc2, HF.out.trans hsc2 (fun _ _ e => e) (fun _ _ e => e.elim)⟩
          case measure => simp [intOf]; omega
        exact AllReadyH.nil
    · have HIJ : Hid (i = j) := (by have := HI.out; unfold Find1 at this; omega : i = j)
      have hi2 : (i : Int) ≤ b := by omega
      clear q1 q2
      go_wp2_with fail
      obtain ⟨wo, rfl⟩ : ∃ wo : World, wo = wr := ⟨_, rfl⟩
      obtain ⟨s, hse⟩ : ∃ s, i - m = s := ⟨_, rfl⟩
      have hst := find1_end (L := L) (Y := Y) (R := R) (x := x) (m := m) (b := b) (i := i) (s := s) (by have := HL.out; omega) (by have := HL.out; omega) HS.out (by
        have := HI.out
        rw [← HIJ.out] at this
        rw [HV.out]
        exact this) hse
      have HST := Lib.hid hst
      have HSE := Lib.hid (And.intro hse (show s ≤ Y.length by have := HL.out; omega))
      clear hse hst
      go_loopw [13] (fun v13 wr => ∃ k : Nat, v13 = .int .i64 k ∧ Hid (a ≤ k ∧ k ≤ a + s) ∧ Hid (BR g n cap wr (L ++ Y.take (k - a) ++ x :: Y.drop (k - a) ++ R)) ∧ Hid (FrG g w wr)) (fun v13 _ => a + s - (intOf v13).toNat)
      case atStart =>
        refine ⟨a, rfl, ⟨Nat.le_refl _, by omega⟩, ?_, HF.out⟩
        rw [Nat.sub_self]
        show BR _ _ _ _ _
        have := HBR.out
        rw [← HV.out] at this
        simpa using this
      case round =>
        obtain ⟨k, rfl, HK, HBK, HFK⟩ := hrel
        have k1 : (k : Int) + 1 ≤ i := by have h1 := HK.out; have h2 := HSE.out; have h3 := HL.out; omega
        by_cases hk : (k : Int) < (i : Int) - 1
        · obtain ⟨VK, hVK⟩ : ∃ V, L ++ Y.take (k - a) ++ x :: Y.drop (k - a) ++ R = V := ⟨_, rfl⟩
          rw [hVK] at HBK
          have HVK := Lib.hid hVK; clear hVK
          have HK1 : Hid (k + 1 < n ∧ k < a + s ∧ a ≤ k) := (by have h1 := HK.out; have h2 := HSE.out; have h3 := HL.out; omega : k + 1 < n ∧ k < a + s ∧ a ≤ k)
          have k2 : (k : Int) + 1 < n := by have := HK1.out; omega
          have k3 : (0 : Int) ≤ (k : Int) + 1 := by omega
          have k4 : IntKind.i64.wrap ((k : Int) + 1) = (k : Int) + 1 := by have := HL.out; rw [IntKind.wrap_i64]; omega
          have k5 : ((k : Int) + 1).toNat = k + 1 := by omega
          have k6 : (k : Int) < n := by omega
          have HBD : Hid (BR g n cap wr.drew VK) := HBK.out.same (Fr.refl _ wr).drew
          go_wp2_with fail
          refine wp_region_held_drew (S := fun _ => True) (by kernel_rfl) (by exact trivial) (fun hHeld => ?_)
          refine wpAnyH_take (i := 0) (v := ?vc1) (idx_of_drop rfl) (by kernel_rfl) (by kernel_rfl) (by kernel_rfl) (fun _ _ _ h => h) (Or.inl ⟨by rfl, ?yc1⟩) (by assumption) ?rc1
          case yc1 => (intro w hSw; go_simp <;> with_reducible rfl)
          (try simp only [Act.put, List.setIfInBounds_toArray, List.set_cons_zero, List.set_cons_succ])
          refine wpAnyH_take (i := 1) (v := ?vc2) (idx_of_drop rfl) (by kernel_rfl) (by kernel_rfl) (by kernel_rfl) (fun _ _ _ h => h) (Or.inl ⟨by rfl, ?yc2⟩) (by assumption) ?rc2
          case yc2 => (intro w hSw; go_simp <;> with_reducible rfl)
          (try simp only [Act.put, List.setIfInBounds_toArray, List.set_cons_zero, List.set_cons_succ])
          refine wpAnyH_take (i := 2) (v := ?vc3) (idx_of_drop rfl) (by kernel_rfl) (by kernel_rfl) (by kernel_rfl) (fun _ _ _ h => h) (Or.inl ⟨by rfl, ?yc3⟩) (by assumption) ?rc3
          case yc3 => (intro w hSw; go_simp <;> with_reducible rfl)
          (try simp only [Act.put, List.setIfInBounds_toArray, List.set_cons_zero, List.set_cons_succ])
          refine wpAnyH_take (i := 3) (v := ?vc4) (idx_of_drop rfl) (by kernel_rfl) (by kernel_rfl) (by kernel_rfl) (fun _ _ _ h => h) (Or.inl ⟨by rfl, ?yc4⟩) (by assumption) ?rc4
          case yc4 => (intro w hSw; go_simp <;> with_reducible rfl)
          (try simp only [Act.put, List.setIfInBounds_toArray, List.set_cons_zero, List.set_cons_succ])
          refine wpAnyH_take (i := 4) (v := ?vc5) (idx_of_drop rfl) (by kernel_rfl) (by kernel_rfl) (by kernel_rfl) (fun _ _ _ h => h) (Or.inl ⟨by rfl, ?yc5⟩) (by assumption) ?rc5
          case yc5 => (intro w hSw; go_simp <;> with_reducible rfl)
          (try simp only [Act.put, List.setIfInBounds_toArray, List.set_cons_zero, List.set_cons_succ])
          refine wpAnyH_take (i := 5) (v := ?vc6) (idx_of_drop rfl) (by kernel_rfl) (by kernel_rfl) (by kernel_rfl) (fun _ _ _ h => h) (Or.inl ⟨by rfl, ?yc6⟩) (by assumption) ?rc6
          case yc6 => (intro w hSw; go_simp <;> with_reducible rfl)
          (try simp only [Act.put, List.setIfInBounds_toArray, List.set_cons_zero, List.set_cons_succ])
          refine wpAnyH_take (i := 6) (v := ?vc7) (idx_of_drop rfl) (by kernel_rfl) (by kernel_rfl) (by kernel_rfl) (fun _ _ _ h => h) (Or.inl ⟨by rfl, ?yc7⟩) (by assumption) ?rc7
          case yc7 => (intro w hSw; go_simp <;> with_reducible rfl)
          (try simp only [Act.put, List.setIfInBounds_toArray, List.set_cons_zero, List.set_cons_succ])
          refine wpAnyH_take (i := 7) (v := ?vc8) (idx_of_drop rfl) (by kernel_rfl) (by kernel_rfl) (by kernel_rfl) (fun _ _ _ h => h) (Or.inl ⟨by rfl, ?yc8⟩) (by assumption) ?rc8
          case yc8 => (intro w hSw; go_simp <;> with_reducible rfl)
          (try simp only [Act.put, List.setIfInBounds_toArray, List.set_cons_zero, List.set_cons_succ])
          refine wpAnyH_take (i := 8) (v := ?vc9) (idx_of_drop rfl) (by kernel_rfl) (by kernel_rfl) (by kernel_rfl) (fun _ _ _ h => h) (Or.inl ⟨by rfl, ?yc9⟩) (by assumption) ?rc9
          case yc9 => (intro w hSw; go_simp <;> with_reducible rfl)
          (try simp only [Act.put, List.setIfInBounds_toArray, List.set_cons_zero, List.set_cons_succ])
          refine wpAnyH_take (i := 10) (v := ?vc10) (idx_of_drop rfl) (by kernel_rfl) (by kernel_rfl) (by kernel_rfl) (fun _ _ _ h => h) (Or.inl ⟨by rfl, ?yc10⟩) (by assumption) ?rc10
          case yc10 => (intro w hSw; go_simp <;> with_reducible rfl)
          (try simp only [Act.put, List.setIfInBounds_toArray, List.set_cons_zero, List.set_cons_succ])
          refine wpAnyH_take (i := 11) (v := ?vc11) (idx_of_drop rfl) (by kernel_rfl) (by kernel_rfl) (by kernel_rfl) (fun _ _ _ h => h) (Or.inl ⟨by rfl, ?yc11⟩) (by assumption) ?rc11
          case yc11 => (intro w hSw; go_simp <;> with_reducible rfl)
          (try simp only [Act.put, List.setIfInBounds_toArray, List.set_cons_zero, List.set_cons_succ])
          refine wpAnyH_take (i := 12) (v := ?vc12) (idx_of_drop rfl) (by kernel_rfl) (by kernel_rfl) (by kernel_rfl) (fun _ _ _ h => h) (Or.inl ⟨by rfl, ?yc12⟩) (by assumption) ?rc12
          case yc12 => (intro w hSw; go_simp <;> with_reducible rfl)
          (try simp only [Act.put, List.setIfInBounds_toArray, List.set_cons_zero, List.set_cons_succ])
          refine wpAnyH_ready (rs := [9, 13]) (by kernel_rfl) (by simp) ?_
          refine AllReadyH.cons (idx_of_drop rfl) (fun K hK => ?sc13) ?mc13
          case sc13 =>
            rw [if_pos (by rfl)]
            refine wp_load_mid 33 (.tmp 69) rfl g _ (by rfl) _ _ (HBD.out.range (j := k + 1) (by have := HK1.out; omega)).1 Tryd.underlying33 rfl info33s ?_
            refine hK.out _ _ (by exact trivial) (fun hHeld => ?_)
            clear hK K
            (try simp only [Act.put, List.setIfInBounds_toArray, List.set_cons_zero, List.set_cons_succ])
            refine wpAnyH_ready (rs := [13]) (by kernel_rfl) (by simp) ?_
            refine AllReadyH.cons (idx_of_drop rfl) (fun K hK => ?sc14) ?mc14
            case sc14 =>
              rw [if_pos (by rfl)]
              refine wp_load_mid 33 (.tmp 73) rfl g _ (by rfl) _ _ (HBD.out.range (j := k) (by have := HK1.out; omega)).1 Tryd.underlying33 rfl info33s ?_
              refine hK.out _ _ (by exact trivial) (fun hHeld => ?_)
              clear hK K
              (try simp only [Act.put, List.setIfInBounds_toArray, List.set_cons_zero, List.set_cons_succ])
              refine wpAnyH_take (i := 14) (v := ?vc15) (idx_of_drop rfl) (by kernel_rfl) (by kernel_rfl) (by kernel_rfl) (fun _ _ _ h => h) (Or.inl ⟨by rfl, ?yc15⟩) (by assumption) ?rc15
              case yc15 => (intro w hSw; go_simp <;> with_reducible rfl)
              (try simp only [Act.put, List.setIfInBounds_toArray, List.set_cons_zero, List.set_cons_succ])
              refine wpAnyH_ready (rs := [15]) (by kernel_rfl) (by simp) ?_
              refine AllReadyH.cons (idx_of_drop rfl) (fun K hK => ?sc16) ?mc16
              case sc16 =>
                rw [if_pos (by rfl)]
                refine wp_store_mid 33 (.tmp 75) (.tmp 70) rfl g ((k) * 4) (VK.getD (k + 1) default).cells.toArray (by rfl) (by rfl) (HBD.out.range (j := k) (by have := HK1.out; omega)).2 info33s (all_oneCell_toArray (one4 _)) ?_
                refine hK.out _ _ (by exact trivial) (fun hHeld => ?_)
                clear hK K
                (try simp only [Act.put, List.setIfInBounds_toArray, List.set_cons_zero, List.set_cons_succ])
                refine wpAnyH_take (i := 16) (v := ?vc17) (idx_of_drop rfl) (by kernel_rfl) (by kernel_rfl) (by kernel_rfl) (fun _ _ _ h => h) (Or.inl ⟨by rfl, ?yc17⟩) (by assumption) ?rc17
                case yc17 => (intro w hSw; go_simp <;> with_reducible rfl)
                (try simp only [Act.put, List.setIfInBounds_toArray, List.set_cons_zero, List.set_cons_succ])
                refine wpAnyH_ready (rs := [17]) (by kernel_rfl) (by simp) ?_
                refine AllReadyH.cons (idx_of_drop rfl) (fun K hK => ?sc18) ?mc18
                case sc18 =>
                  rw [if_pos (by rfl)]
                  refine wp_store_mid 33 (.tmp 76) (.tmp 74) rfl g ((k + 1) * 4) (VK.getD (k) default).cells.toArray (by rfl) (by rfl) ((HBD.out.put (j := k) (by have := HK1.out; omega) (VK.getD (k + 1) default)).range (j := k + 1) (by have := HK1.out; omega)).2 info33s (all_oneCell_toArray (one4 _)) ?_
                  refine hK.out _ _ (by exact trivial) (fun hHeld => ?_)
                  clear hK K
                  (try simp only [Act.put, List.setIfInBounds_toArray, List.set_cons_zero, List.set_cons_succ])
                  refine wpAnyH_done (by kernel_rfl) ?_ _
                  rename_i hH; clear hH
                  go_wp2_with fail
                  go_roundw
                  case rel =>
                    refine ⟨k + 1, by go_num, (by have := HK1.out; omega : a ≤ k + 1 ∧ k + 1 ≤ a + s), ?_, frg_setCells _ _ _ _ (frg_setCells _ _ _ _ HFK.out.drew)⟩
                    show BR _ _ _ _ _
                    have hsw := HBD.out.swap (i := k) (j := k + 1) (by have := HK1.out; omega) (by have := HK1.out; omega)
                    have e : swl VK k (k + 1) = L ++ Y.take (k + 1 - a) ++ x :: Y.drop (k + 1 - a) ++ R := by
                      have h1 := HK1.out
                      have h2 := HSE.out
                      have h3 := sw_step (L := L) (Y := Y) (R := R) (x := x) (a := a) (t := k - a) HL.out.2.2.2.1 (by omega)
                      rw [show a + (k - a) = k by omega, show k - a + 1 = k + 1 - a by omega, HVK.out] at h3
                      exact h3
                    rw [← e]
                    exact hsw
                  case measure => have := HK1.out; simp [intOf]; omega
                exact AllReadyH.nil
              exact AllReadyH.nil
            exact AllReadyH.nil
          refine AllReadyH.cons (idx_of_drop rfl) (fun K hK => ?sc19) ?mc19
          case sc19 =>
            rw [if_pos (by rfl)]
            refine wp_load_mid 33 (.tmp 73) rfl g _ (by rfl) _ _ (HBD.out.range (j := k) (by have := HK1.out; omega)).1 Tryd.underlying33 rfl info33s ?_
            refine hK.out _ _ (by exact trivial) (fun hHeld => ?_)
            clear hK K
            (try simp only [Act.put, List.setIfInBounds_toArray, List.set_cons_zero, List.set_cons_succ])
            refine wpAnyH_ready (rs := [9]) (by kernel_rfl) (by simp) ?_
            refine AllReadyH.cons (idx_of_drop rfl) (fun K hK => ?sc20) ?mc20
            case sc20 =>
              rw [if_pos (by rfl)]
              refine wp_load_mid 33 (.tmp 69) rfl g _ (by rfl) _ _ (HBD.out.range (j := k + 1) (by have := HK1.out; omega)).1 Tryd.underlying33 rfl info33s ?_
              refine hK.out _ _ (by exact trivial) (fun hHeld => ?_)
              clear hK K
              (try simp only [Act.put, List.setIfInBounds_toArray, List.set_cons_zero, List.set_cons_succ])
              refine wpAnyH_take (i := 14) (v := ?vc21) (idx_of_drop rfl) (by kernel_rfl) (by kernel_rfl) (by kernel_rfl) (fun _ _ _ h => h) (Or.inl ⟨by rfl, ?yc21⟩) (by assumption) ?rc21
              case yc21 => (intro w hSw; go_simp <;> with_reducible rfl)
              (try simp only [Act.put, List.setIfInBounds_toArray, List.set_cons_zero, List.set_cons_succ])
              refine wpAnyH_ready (rs := [15]) (by kernel_rfl) (by simp) ?_
              refine AllReadyH.cons (idx_of_drop rfl) (fun K hK => ?sc22) ?mc22
              case sc22 =>
                rw [if_pos (by rfl)]
                refine wp_store_mid 33 (.tmp 75) (.tmp 70) rfl g ((k) * 4) (VK.getD (k + 1) default).cells.toArray (by rfl) (by rfl) (HBD.out.range (j := k) (by have := HK1.out; omega)).2 info33s (all_oneCell_toArray (one4 _)) ?_
                refine hK.out _ _ (by exact trivial) (fun hHeld => ?_)
                clear hK K
                (try simp only [Act.put, List.setIfInBounds_toArray, List.set_cons_zero, List.set_cons_succ])
                refine wpAnyH_take (i := 16) (v := ?vc23) (idx_of_drop rfl) (by kernel_rfl) (by kernel_rfl) (by kernel_rfl) (fun _ _ _ h => h) (Or.inl ⟨by rfl, ?yc23⟩) (by assumption) ?rc23
                case yc23 => (intro w hSw; go_simp <;> with_reducible rfl)
                (try simp only [Act.put, List.setIfInBounds_toArray, List.set_cons_zero, List.set_cons_succ])
                refine wpAnyH_ready (rs := [17]) (by kernel_rfl) (by simp) ?_
                refine AllReadyH.cons (idx_of_drop rfl) (fun K hK => ?sc24) ?mc24
                case sc24 =>
                  rw [if_pos (by rfl)]
                  refine wp_store_mid 33 (.tmp 76) (.tmp 74) rfl g ((k + 1) * 4) (VK.getD (k) default).cells.toArray (by rfl) (by rfl) ((HBD.out.put (j := k) (by have := HK1.out; omega) (VK.getD (k + 1) default)).range (j := k + 1) (by have := HK1.out; omega)).2 info33s (all_oneCell_toArray (one4 _)) ?_
                  refine hK.out _ _ (by exact trivial) (fun hHeld => ?_)
                  clear hK K
                  (try simp only [Act.put, List.setIfInBounds_toArray, List.set_cons_zero, List.set_cons_succ])
                  refine wpAnyH_done (by kernel_rfl) ?_ _
                  rename_i hH; clear hH
                  go_wp2_with fail
                  go_roundw
                  case rel =>
                    refine ⟨k + 1, by go_num, (by have := HK1.out; omega : a ≤ k + 1 ∧ k + 1 ≤ a + s), ?_, frg_setCells _ _ _ _ (frg_setCells _ _ _ _ HFK.out.drew)⟩
                    show BR _ _ _ _ _
                    have hsw := HBD.out.swap (i := k) (j := k + 1) (by have := HK1.out; omega) (by have := HK1.out; omega)
                    have e : swl VK k (k + 1) = L ++ Y.take (k + 1 - a) ++ x :: Y.drop (k + 1 - a) ++ R := by
                      have h1 := HK1.out
                      have h2 := HSE.out
                      have h3 := sw_step (L := L) (Y := Y) (R := R) (x := x) (a := a) (t := k - a) HL.out.2.2.2.1 (by omega)
                      rw [show a + (k - a) = k by omega, show k - a + 1 = k + 1 - a by omega, HVK.out] at h3
                      exact h3
                    rw [← e]
                    exact hsw
                  case measure => have := HK1.out; simp [intOf]; omega
                exact AllReadyH.nil
              exact AllReadyH.nil
            exact AllReadyH.nil
          exact AllReadyH.nil
        · have HKE : Hid (k - a = s) := (by have h1 := HK.out; have h2 := HSE.out; have h3 := HL.out; omega : k - a = s)
          go_wp2_with fail
          refine bodyPost_ret (results_none rfl _ _ _) rfl ?_
          refine ⟨rfl, _, HST.out, ?_, HFK.out⟩
          have := HBK.out
          rw [HKE.out] at this
          simpa using this
end Go.Proofs.YtlgonkopojancaaDoor
namespace Go.Proofs.YtlgonkopojancaaDoor
open Go.RowKit

/-- where the search for the place stands -/
def Find2 (V : List FV) (y : FV) (a m i j : Nat) : Prop := a ≤ i ∧ i ≤ j ∧ j ≤ m ∧ (i = a ∨ lt y (V.getD (i - 1) default) = false) ∧ (j = m ∨ lt y (V.getD j default) = true)
theorem swl_comm {V : List FV} {i j : Nat} (h : i ≠ j) : swl V i j = swl V j i := by
  unfold swl
  rw [List.set_comm _ _ h]
theorem sw_back {L X R : List FV} {y : FV} {a t : Nat} (ha : L.length = a) (ht : t < X.length) : swl (L ++ X.take (t + 1) ++ y :: X.drop (t + 1) ++ R) (a + t + 1) (a + t) = L ++ X.take t ++ y :: X.drop t ++ R := by
  have hl : (L ++ X.take t).length = a + t := by rw [List.length_append, List.length_take]; omega
  have hd : X.drop t = X[t] :: X.drop (t + 1) := List.drop_eq_getElem_cons ht
  have e : L ++ X.take (t + 1) ++ y :: X.drop (t + 1) ++ R = (L ++ X.take t) ++ X[t] :: ([] ++ y :: (X.drop (t + 1) ++ R)) := by
    rw [List.take_succ_eq_append_getElem ht]
    simp only [List.append_assoc, List.cons_append, List.nil_append]
  rw [swl_comm (by omega), e, swl_app hl (by simp), hd]
  simp only [List.append_assoc, List.cons_append, List.nil_append]
theorem getX {L X : List FV} {Z : List FV} {a j : Nat} (ha : L.length = a) (hj : j < X.length) : (L ++ X ++ Z).getD (a + j) default = X[j] := by
  rw [List.getD_eq_getElem?_getD, List.append_assoc, List.getElem?_append_right (by omega), show a + j - L.length = j by omega, List.getElem?_append_left hj, List.getElem?_eq_getElem hj]
  rfl
theorem find2_end {L X Z : List FV} {y : FV} {a m i s : Nat} (ha : L.length = a) (hm : a + X.length = m) (hs : Srt FV.key X) (h : Find2 (L ++ X ++ Z) y a m i i) (hse : i - a = s) : StableOf FV.key (X ++ [y]) (X.take s ++ y :: X.drop s) := by
  obtain ⟨h1, _, h3, h4, h5⟩ := h
  have hsl : s ≤ X.length := by omega
  have hsp : X = X.take s ++ X.drop s := (List.take_append_drop s X).symm
  have hs' : Srt FV.key (X.take s ++ X.drop s) := by rw [← hsp]; exact hs
  have hy : Srt FV.key [y] := List.pairwise_singleton _ _
  have hleq : Leq FV.key (X.take s) [y] := by
    refine leq_of FV.key (srt_left FV.key hs') hy ?_
    rcases Nat.eq_zero_or_pos s with h0 | h0
    · left; rw [h0]; rfl
    · refine .inr (.inr ⟨X[s - 1]'(by omega), y, X.take (s - 1), [], ?_, rfl, ?_⟩)
      · have := List.take_succ_eq_append_getElem (l := X) (i := s - 1) (by omega)
        rw [show s - 1 + 1 = s by omega] at this
        exact this
      · have := h4.resolve_left (by omega)
        rw [show i - 1 = a + (s - 1) by omega, getX ha (by omega)] at this
        exact this
  have hlss : Lss FV.key [y] (X.drop s) := by
    refine lss_of FV.key hy (srt_right FV.key hs') ?_
    by_cases h0 : s = X.length
    · exact .inr (.inl (List.drop_of_length_le (by omega)))
    · refine .inr (.inr ⟨y, X[s]'(by omega), [], X.drop (s + 1), rfl, List.drop_eq_getElem_cons (by omega), ?_⟩)
      have := h5.resolve_left (by omega)
      rw [show i = a + s by omega, getX ha (by omega)] at this
      exact this
  have h1' : StableOf FV.key (X.take s ++ [y]) (X.take s ++ [y]) := stable_srt FV.key (srt_app FV.key (srt_left FV.key hs') hy hleq)
  have h2' : StableOf FV.key (X.drop s ++ []) (X.drop s) := by rw [List.append_nil]; exact stable_srt FV.key (srt_right FV.key hs')
  have := stable_parts FV.key (X1 := X.take s) (X2 := X.drop s) (Y1 := [y]) (Y2 := []) hs' hy hlss (fun _ _ _ h => by simp at h) h1' h2'
  rw [List.take_append_drop] at this
  simpa using this

set_option linter.unusedSimpArgs false in
set_option maxRecDepth 100000 in
set_option maxHeartbeats 8000000 in
theorem sym_last (g n cap a m b : Nat) (y : FV) (L X R : List FV) (w : World) (h : BR g n cap w (L ++ X ++ [y] ++ R)) (h63 : n ≤ 1000000) (hX : 1 < X.length) (ha : L.length = a) (hm : a + X.length = m) (hb : m + 1 = b) (hs : Srt FV.key X) :
    Calls Tryd.prog 58 #[.slice (some ⟨g, 0, none⟩) n cap, .int .i64 a, .int .i64 m, .int .i64 b, cmpV] w (SymPost g n cap L X [y] R w) := by
  have hl := h.len
  simp only [List.length_append, List.length_singleton] at hl
  obtain ⟨V, hV⟩ : ∃ V, L ++ X ++ ([y] ++ R) = V := ⟨_, rfl⟩
  have hxa : V.getD m default = y := by rw [← hV]; exact getD_app (by simp; omega)
  rw [List.append_assoc, hV] at h
  have e35 := enters35
  have HB := Lib.hid h; have HL := Lib.hid (And.intro hl (And.intro h63 (And.intro hX (And.intro ha (And.intro hm hb))))); have HV := Lib.hid hV; have HS := Lib.hid hs; have HXA := Lib.hid hxa
  have i1 : (b : Int) - (m : Int) = 1 := by omega
  have i1b : (((b : Int) - (m : Int)) == 1) = true := by rw [i1]; rfl
  have i1c : (((m : Int) - (a : Int)) == 1) = false := by rw [beq_eq_false_iff_ne]; omega
  have I1 := Lib.hid i1
  have i2 : (m : Int) < b := by omega
  have i3 : (b : Int) ≤ 1000000 := by omega
  have i4 : (a : Int) < m := by omega
  have i5 : (b : Int) ≤ n := by omega
  clear h hl h63 hX ha hm hb hV hs hxa i1
  unfold cmpV
  go_enter Tryd.func58, Tryd.ntmps58
  go_wp2_with fail
  go_loopw [14, 15, 16] (fun v10 v11 _ wr => ∃ i j : Nat, v10 = .int .i64 i ∧ v11 = .int .i64 j ∧ Hid (Find2 V y a m i j) ∧ Hid (BR g n cap wr V) ∧ Hid (FrG g w wr)) (fun v10 v11 _ _ => (intOf v11).toNat - (intOf v10).toNat)
  case atStart => exact ⟨a, m, rfl, rfl, ⟨Nat.le_refl _, by omega, Nat.le_refl _, .inl rfl, .inl rfl⟩, HB.out, Fr.refl _ _⟩
  case round =>
    obtain ⟨i, j, rfl, rfl, HI, HBR, HF⟩ := hrel
    have q1 : (i : Int) ≤ j := by have := HI.out; unfold Find2 at this; omega
    have q2 : (j : Int) ≤ m := by have := HI.out; unfold Find2 at this; omega
    have q3 : (a : Int) ≤ i := by have := HI.out; unfold Find2 at this; omega
    by_cases hij : (i : Int) < j
    · obtain ⟨p, hp⟩ : ∃ p, (i + j) / 2 = p := ⟨_, rfl⟩
      have p1 : ((i : Int) + (j : Int)) / 2 = (p : Int) := by omega
      have p2 : (p : Int) < j := by omega
      have p3 : (i : Int) ≤ p := by omega
      have p4 : (p : Int) < n := by omega
      have p5 : (m : Int) < n := by omega
      have P0 := Lib.hid hp; clear hp
      have HS0 := Lib.hid (range2 (p := m) (q := p) HBR.out (by omega) (by omega))
      by_cases hlt : lt y (V.getD p default) = true
      · have HC : Hid (cmpI (V.getD m default).f.name (V.getD p default).f.name = -1) := (by rw [HXA.out]; exact cmp_neg hlt : cmpI (V.getD m default).f.name (V.getD p default).f.name = -1)
        have HF1 : Hid (Find2 V y a m i p) := (by
          obtain ⟨h1, h2, h3, h4, h5⟩ := HI.out
          exact ⟨h1, by omega, by omega, h4, .inr hlt⟩ : Find2 V y a m i p)
        clear hlt
        go_wp2_with fail
        refine wp_region_held_drew (S := fun w' => w'.rangeAt g ((m) * 4) (V.getD (m) default).cells ∧ w'.rangeAt g ((p) * 4) (V.getD (p) default).cells) (by kernel_rfl) (by exact HS0.out _ (Fr.refl _ _).drew) (fun hHeld => ?_)
        refine wpAnyH_take (i := 0) (v := ?va1) (idx_of_drop rfl) (by kernel_rfl) (by kernel_rfl) (by kernel_rfl) (fun _ _ _ h => h) (Or.inl ⟨by rfl, ?ya1⟩) (by assumption) ?ra1
        case ya1 => (intro w hSw; go_simp <;> with_reducible rfl)
        (try simp only [Act.put, List.setIfInBounds_toArray, List.set_cons_zero, List.set_cons_succ])
        refine wpAnyH_take (i := 1) (v := ?va2) (idx_of_drop rfl) (by kernel_rfl) (by kernel_rfl) (by kernel_rfl) (fun _ _ _ h => h) (Or.inl ⟨by rfl, ?ya2⟩) (by assumption) ?ra2
        case ya2 => (intro w hSw; go_simp <;> with_reducible rfl)
        (try simp only [Act.put, List.setIfInBounds_toArray, List.set_cons_zero, List.set_cons_succ])
        refine wpAnyH_take (i := 2) (v := ?va3) (idx_of_drop rfl) (by kernel_rfl) (by kernel_rfl) (by kernel_rfl) (fun _ _ _ h => h) (Or.inl ⟨by rfl, ?ya3⟩) (by assumption) ?ra3
        case ya3 => (intro w hSw; go_simp <;> with_reducible rfl)
        (try simp only [Act.put, List.setIfInBounds_toArray, List.set_cons_zero, List.set_cons_succ])
        refine wpAnyH_take (i := 3) (v := ?va4) (idx_of_drop rfl) (by kernel_rfl) (by kernel_rfl) (by kernel_rfl) (fun _ _ _ h => h) (Or.inl ⟨by rfl, ?ya4⟩) (by assumption) ?ra4
        case ya4 => (intro w hSw; go_simp <;> with_reducible rfl)
        (try simp only [Act.put, List.setIfInBounds_toArray, List.set_cons_zero, List.set_cons_succ])
        refine wpAnyH_take (i := 4) (v := .agg (V.getD (m) default).cells.toArray) (idx_of_drop rfl) (by kernel_rfl) (by kernel_rfl) (by kernel_rfl) (fun _ _ _ h => h) (yieldsIf_load_mid (by rfl) 33 (.tmp 95) rfl g ((m) * 4) (by rfl) (V.getD (m) default).cells _ (fun w hw => hw.1) Tryd.underlying33 rfl info33s) (by assumption) ?ra5
        (try simp only [Act.put, List.setIfInBounds_toArray, List.set_cons_zero, List.set_cons_succ])
        refine wpAnyH_take (i := 5) (v := ?va6) (idx_of_drop rfl) (by kernel_rfl) (by kernel_rfl) (by kernel_rfl) (fun _ _ _ h => h) (Or.inl ⟨by rfl, ?ya6⟩) (by assumption) ?ra6
        case ya6 => (intro w hSw; go_simp <;> with_reducible rfl)
        (try simp only [Act.put, List.setIfInBounds_toArray, List.set_cons_zero, List.set_cons_succ])
        refine wpAnyH_take (i := 6) (v := ?va7) (idx_of_drop rfl) (by kernel_rfl) (by kernel_rfl) (by kernel_rfl) (fun _ _ _ h => h) (Or.inl ⟨by rfl, ?ya7⟩) (by assumption) ?ra7
        case ya7 => (intro w hSw; go_simp <;> with_reducible rfl)
        (try simp only [Act.put, List.setIfInBounds_toArray, List.set_cons_zero, List.set_cons_succ])
        refine wpAnyH_take (i := 7) (v := ?va8) (idx_of_drop rfl) (by kernel_rfl) (by kernel_rfl) (by kernel_rfl) (fun _ _ _ h => h) (Or.inl ⟨by rfl, ?ya8⟩) (by assumption) ?ra8
        case ya8 => (intro w hSw; go_simp <;> with_reducible rfl)
        (try simp only [Act.put, List.setIfInBounds_toArray, List.set_cons_zero, List.set_cons_succ])
        refine wpAnyH_take (i := 8) (v := .agg (V.getD (p) default).cells.toArray) (idx_of_drop rfl) (by kernel_rfl) (by kernel_rfl) (by kernel_rfl) (fun _ _ _ h => h) (yieldsIf_load_mid (by rfl) 33 (.tmp 99) rfl g ((p) * 4) (by rfl) (V.getD (p) default).cells _ (fun w hw => hw.2) Tryd.underlying33 rfl info33s) (by assumption) ?ra9
        (try simp only [Act.put, List.setIfInBounds_toArray, List.set_cons_zero, List.set_cons_succ])
        refine wpAnyH_ready (rs := [9]) (by kernel_rfl) (by simp) ?_
        refine AllReadyH.cons (idx_of_drop rfl) (fun K hK => ?sa10) ?ma10
        case sa10 =>
          go_simp
          refine (cmp_told (V.getD (m) default) (V.getD (p) default) _).mono ?_
          rintro e wc ⟨rfl, hsc⟩
          have hsc2 := (Fr.refl (fun _ => False) wr).drew.trans' hsc
          rw [HC.out]
          refine hK.out _ _ (by exact HS0.out _ hsc2) (fun hHeld => ?_)
          clear hK K
          (try simp only [Act.put, List.setIfInBounds_toArray, List.set_cons_zero, List.set_cons_succ])
          refine wpAnyH_take (i := 10) (v := ?va11) (idx_of_drop rfl) (by kernel_rfl) (by kernel_rfl) (by kernel_rfl) (fun _ _ _ h => h) (Or.inl ⟨by rfl, ?ya11⟩) (by assumption) ?ra11
          case ya11 => (intro w hSw; go_simp <;> with_reducible rfl)
          (try simp only [Act.put, List.setIfInBounds_toArray, List.set_cons_zero, List.set_cons_succ])
          refine wpAnyH_take (i := 11) (v := ?va12) (idx_of_drop rfl) (by kernel_rfl) (by kernel_rfl) (by kernel_rfl) (fun _ _ _ h => h) (Or.inl ⟨by rfl, ?ya12⟩) (by assumption) ?ra12
          case ya12 => (intro w hSw; go_simp <;> with_reducible rfl)
          (try simp only [Act.put, List.setIfInBounds_toArray, List.set_cons_zero, List.set_cons_succ])
          refine wpAnyH_done (by kernel_rfl) ?_ _
          rename_i hH; clear hH
          go_wp2_with fail
          go_roundw
          case rel => exact ⟨i, p, rfl, rfl, HF1.out, HBR.out.same hsc2, HF.out.trans hsc2 (fun _ _ e => e) (fun _ _ e => e.elim)⟩
          case measure => simp [intOf]; omega
        exact AllReadyH.nil
      · have hlt2 : lt y (V.getD p default) = false := by simpa using hlt
        obtain ⟨q, hq⟩ : ∃ q, cmpI (V.getD m default).f.name (V.getD p default).f.name = q := ⟨_, rfl⟩
        have hq0 : 0 ≤ q := by rw [← hq, HXA.out]; exact cmp_pos hlt2
        have hq1 : ¬ q < 0 := by omega
        have hq2 : decide (q < 0) = false := decide_eq_false hq1
        have hq3 : (!decide (q < 0)) = true := by rw [hq2]; rfl
        have HC := Lib.hid hq
        have HF1 : Hid (Find2 V y a m (p + 1) j) := (by
          obtain ⟨h1, h2, h3, h4, h5⟩ := HI.out
          exact ⟨by omega, by omega, h3, .inr (by rw [Nat.add_sub_cancel]; exact hlt2), h5⟩ : Find2 V y a m (p + 1) j)
        clear hlt hlt2 hq hq0
        go_wp2_with fail
        refine wp_region_held_drew (S := fun w' => w'.rangeAt g ((m) * 4) (V.getD (m) default).cells ∧ w'.rangeAt g ((p) * 4) (V.getD (p) default).cells) (by kernel_rfl) (by exact HS0.out _ (Fr.refl _ _).drew) (fun hHeld => ?_)
        refine wpAnyH_take (i := 0) (v := ?vb1) (idx_of_drop rfl) (by kernel_rfl) (by kernel_rfl) (by kernel_rfl) (fun _ _ _ h => h) (Or.inl ⟨by rfl, ?yb1⟩) (by assumption) ?rb1
        case yb1 => (intro w hSw; go_simp <;> with_reducible rfl)
        (try simp only [Act.put, List.setIfInBounds_toArray, List.set_cons_zero, List.set_cons_succ])
        refine wpAnyH_take (i := 1) (v := ?vb2) (idx_of_drop rfl) (by kernel_rfl) (by kernel_rfl) (by kernel_rfl) (fun _ _ _ h => h) (Or.inl ⟨by rfl, ?yb2⟩) (by assumption) ?rb2
        case yb2 => (intro w hSw; go_simp <;> with_reducible rfl)
        (try simp only [Act.put, List.setIfInBounds_toArray, List.set_cons_zero, List.set_cons_succ])
        refine wpAnyH_take (i := 2) (v := ?vb3) (idx_of_drop rfl) (by kernel_rfl) (by kernel_rfl) (by kernel_rfl) (fun _ _ _ h => h) (Or.inl ⟨by rfl, ?yb3⟩) (by assumption) ?rb3
        case yb3 => (intro w hSw; go_simp <;> with_reducible rfl)
        (try simp only [Act.put, List.setIfInBounds_toArray, List.set_cons_zero, List.set_cons_succ])
        refine wpAnyH_take (i := 3) (v := ?vb4) (idx_of_drop rfl) (by kernel_rfl) (by kernel_rfl) (by kernel_rfl) (fun _ _ _ h => h) (Or.inl ⟨by rfl, ?yb4⟩) (by assumption) ?rb4
        case yb4 => (intro w hSw; go_simp <;> with_reducible rfl)
        (try simp only [Act.put, List.setIfInBounds_toArray, List.set_cons_zero, List.set_cons_succ])
        refine wpAnyH_take (i := 4) (v := .agg (V.getD (m) default).cells.toArray) (idx_of_drop rfl) (by kernel_rfl) (by kernel_rfl) (by kernel_rfl) (fun _ _ _ h => h) (yieldsIf_load_mid (by rfl) 33 (.tmp 95) rfl g ((m) * 4) (by rfl) (V.getD (m) default).cells _ (fun w hw => hw.1) Tryd.underlying33 rfl info33s) (by assumption) ?rb5
        (try simp only [Act.put, List.setIfInBounds_toArray, List.set_cons_zero, List.set_cons_succ])
        refine wpAnyH_take (i := 5) (v := ?vb6) (idx_of_drop rfl) (by kernel_rfl) (by kernel_rfl) (by kernel_rfl) (fun _ _ _ h => h) (Or.inl ⟨by rfl, ?yb6⟩) (by assumption) ?rb6
        case yb6 => (intro w hSw; go_simp <;> with_reducible rfl)
        (try simp only [Act.put, List.setIfInBounds_toArray, List.set_cons_zero, List.set_cons_succ])
        refine wpAnyH_take (i := 6) (v := ?vb7) (idx_of_drop rfl) (by kernel_rfl) (by kernel_rfl) (by kernel_rfl) (fun _ _ _ h => h) (Or.inl ⟨by rfl, ?yb7⟩) (by assumption) ?rb7
        case yb7 => (intro w hSw; go_simp <;> with_reducible rfl)
        (try simp only [Act.put, List.setIfInBounds_toArray, List.set_cons_zero, List.set_cons_succ])
        refine wpAnyH_take (i := 7) (v := ?vb8) (idx_of_drop rfl) (by kernel_rfl) (by kernel_rfl) (by kernel_rfl) (fun _ _ _ h => h) (Or.inl ⟨by rfl, ?yb8⟩) (by assumption) ?rb8
        case yb8 => (intro w hSw; go_simp <;> with_reducible rfl)
        (try simp only [Act.put, List.setIfInBounds_toArray, List.set_cons_zero, List.set_cons_succ])
        refine wpAnyH_take (i := 8) (v := .agg (V.getD (p) default).cells.toArray) (idx_of_drop rfl) (by kernel_rfl) (by kernel_rfl) (by kernel_rfl) (fun _ _ _ h => h) (yieldsIf_load_mid (by rfl) 33 (.tmp 99) rfl g ((p) * 4) (by rfl) (V.getD (p) default).cells _ (fun w hw => hw.2) Tryd.underlying33 rfl info33s) (by assumption) ?rb9
        (try simp only [Act.put, List.setIfInBounds_toArray, List.set_cons_zero, List.set_cons_succ])
        refine wpAnyH_ready (rs := [9]) (by kernel_rfl) (by simp) ?_
        refine AllReadyH.cons (idx_of_drop rfl) (fun K hK => ?sb10) ?mb10
        case sb10 =>
          go_simp
          refine (cmp_told (V.getD (m) default) (V.getD (p) default) _).mono ?_
          rintro e wc ⟨rfl, hsc⟩
          have hsc2 := (Fr.refl (fun _ => False) wr).drew.trans' hsc
          rw [HC.out]
          refine hK.out _ _ (by exact HS0.out _ hsc2) (fun hHeld => ?_)
          clear hK K
          (try simp only [Act.put, List.setIfInBounds_toArray, List.set_cons_zero, List.set_cons_succ])
          refine wpAnyH_take (i := 10) (v := ?vb11) (idx_of_drop rfl) (by kernel_rfl) (by kernel_rfl) (by kernel_rfl) (fun _ _ _ h => h) (Or.inl ⟨by rfl, ?yb11⟩) (by assumption) ?rb11
          case yb11 => (intro w hSw; go_simp <;> with_reducible rfl)
          (try simp only [Act.put, List.setIfInBounds_toArray, List.set_cons_zero, List.set_cons_succ])
          refine wpAnyH_take (i := 11) (v := ?vb12) (idx_of_drop rfl) (by kernel_rfl) (by kernel_rfl) (by kernel_rfl) (fun _ _ _ h => h) (Or.inl ⟨by rfl, ?yb12⟩) (by assumption) ?rb12
          case yb12 => (intro w hSw; go_simp <;> with_reducible rfl)
          (try simp only [Act.put, List.setIfInBounds_toArray, List.set_cons_zero, List.set_cons_succ])
          refine wpAnyH_done (by kernel_rfl) ?_ _
          rename_i hH; clear hH
          go_wp2_with fail
          go_roundw
          case rel => exact ⟨p + 1, j, by go_num, rfl, HF1.out, HBR.out.same hsc2, HF.out.trans hsc2 (fun _ _ e => e) (fun _ _ e => e.elim)⟩
          case measure => simp [intOf]; omega
        exact AllReadyH.nil
    · have HIJ : Hid (i = j) := (by have := HI.out; unfold Find2 at this; omega : i = j)
      have hi2 : (i : Int) ≤ m := by omega
      clear q1 q2
      go_wp2_with fail
      obtain ⟨wo, rfl⟩ : ∃ wo : World, wo = wr := ⟨_, rfl⟩
      obtain ⟨s, hse⟩ : ∃ s, i - a = s := ⟨_, rfl⟩
      have hst := find2_end (L := L) (X := X) (Z := [y] ++ R) (y := y) (a := a) (m := m) (i := i) (s := s) HL.out.2.2.2.1 HL.out.2.2.2.2.1 HS.out (by
        have := HI.out
        rw [← HIJ.out] at this
        rw [HV.out]
        exact this) hse
      have HST := Lib.hid hst
      have HSE := Lib.hid (And.intro hse (show s ≤ X.length by have := HL.out; omega))
      clear hse hst
      go_loopw [17] (fun v17 wr => ∃ k : Nat, v17 = .int .i64 k ∧ Hid (a + s ≤ k ∧ k ≤ m) ∧ Hid (BR g n cap wr (L ++ X.take (k - a) ++ y :: X.drop (k - a) ++ R)) ∧ Hid (FrG g w wr)) (fun v17 _ => (intOf v17).toNat)
      case atStart =>
        refine ⟨m, rfl, ⟨by have h1 := HSE.out; have h2 := HL.out; omega, Nat.le_refl _⟩, ?_, HF.out⟩
        show BR _ _ _ _ _
        have h2 := HL.out
        have := HBR.out
        rw [← HV.out] at this
        rw [List.take_of_length_le (by omega), List.drop_of_length_le (by omega)]
        simpa using this
      case round =>
        obtain ⟨k, rfl, HK, HBK, HFK⟩ := hrel
        by_cases hk : (i : Int) < (k : Int)
        · obtain ⟨p, rfl⟩ : ∃ p, k = p + 1 := ⟨k - 1, by omega⟩
          obtain ⟨VK, hVK⟩ : ∃ V, L ++ X.take (p + 1 - a) ++ y :: X.drop (p + 1 - a) ++ R = V := ⟨_, rfl⟩
          rw [hVK] at HBK
          have HVK := Lib.hid hVK; clear hVK
          have HK1 : Hid (p + 1 < n ∧ a + s ≤ p ∧ p + 1 ≤ m ∧ a ≤ p) := (by have h1 := HK.out; have h2 := HSE.out; have h3 := HL.out; omega : p + 1 < n ∧ a + s ≤ p ∧ p + 1 ≤ m ∧ a ≤ p)
          have k2 : (p : Int) + 1 < n := by have := HK1.out; omega
          have k3 : (0 : Int) ≤ (p : Int) + 1 := by omega
          have k4 : IntKind.i64.wrap (p : Int) = (p : Int) := by have := HL.out; rw [IntKind.wrap_i64]; omega
          have k5 : ((p : Int) + 1).toNat = p + 1 := by omega
          have k6 : (p : Int) < n := by omega
          have HBD : Hid (BR g n cap wr.drew VK) := HBK.out.same (Fr.refl _ wr).drew
          go_wp2_with fail
          refine wp_region_held_drew (S := fun _ => True) (by kernel_rfl) (by exact trivial) (fun hHeld => ?_)
          refine wpAnyH_take (i := 0) (v := ?vc1) (idx_of_drop rfl) (by kernel_rfl) (by kernel_rfl) (by kernel_rfl) (fun _ _ _ h => h) (Or.inl ⟨by rfl, ?yc1⟩) (by assumption) ?rc1
          case yc1 => (intro w hSw; go_simp <;> with_reducible rfl)
          (try simp only [Act.put, List.setIfInBounds_toArray, List.set_cons_zero, List.set_cons_succ])
          refine wpAnyH_take (i := 1) (v := ?vc2) (idx_of_drop rfl) (by kernel_rfl) (by kernel_rfl) (by kernel_rfl) (fun _ _ _ h => h) (Or.inl ⟨by rfl, ?yc2⟩) (by assumption) ?rc2
          case yc2 => (intro w hSw; go_simp <;> with_reducible rfl)
          (try simp only [Act.put, List.setIfInBounds_toArray, List.set_cons_zero, List.set_cons_succ])
          refine wpAnyH_take (i := 2) (v := ?vc3) (idx_of_drop rfl) (by kernel_rfl) (by kernel_rfl) (by kernel_rfl) (fun _ _ _ h => h) (Or.inl ⟨by rfl, ?yc3⟩) (by assumption) ?rc3
          case yc3 => (intro w hSw; go_simp <;> with_reducible rfl)
          (try simp only [Act.put, List.setIfInBounds_toArray, List.set_cons_zero, List.set_cons_succ])
          refine wpAnyH_take (i := 3) (v := ?vc4) (idx_of_drop rfl) (by kernel_rfl) (by kernel_rfl) (by kernel_rfl) (fun _ _ _ h => h) (Or.inl ⟨by rfl, ?yc4⟩) (by assumption) ?rc4
          case yc4 => (intro w hSw; go_simp <;> with_reducible rfl)
          (try simp only [Act.put, List.setIfInBounds_toArray, List.set_cons_zero, List.set_cons_succ])
          refine wpAnyH_take (i := 4) (v := ?vc5) (idx_of_drop rfl) (by kernel_rfl) (by kernel_rfl) (by kernel_rfl) (fun _ _ _ h => h) (Or.inl ⟨by rfl, ?yc5⟩) (by assumption) ?rc5
          case yc5 => (intro w hSw; go_simp <;> with_reducible rfl)
          (try simp only [Act.put, List.setIfInBounds_toArray, List.set_cons_zero, List.set_cons_succ])
          refine wpAnyH_take (i := 5) (v := ?vc6) (idx_of_drop rfl) (by kernel_rfl) (by kernel_rfl) (by kernel_rfl) (fun _ _ _ h => h) (Or.inl ⟨by rfl, ?yc6⟩) (by assumption) ?rc6
          case yc6 => (intro w hSw; go_simp <;> with_reducible rfl)
          (try simp only [Act.put, List.setIfInBounds_toArray, List.set_cons_zero, List.set_cons_succ])
          refine wpAnyH_take (i := 6) (v := ?vc7) (idx_of_drop rfl) (by kernel_rfl) (by kernel_rfl) (by kernel_rfl) (fun _ _ _ h => h) (Or.inl ⟨by rfl, ?yc7⟩) (by assumption) ?rc7
          case yc7 => (intro w hSw; go_simp <;> with_reducible rfl)
          (try simp only [Act.put, List.setIfInBounds_toArray, List.set_cons_zero, List.set_cons_succ])
          refine wpAnyH_take (i := 7) (v := ?vc8) (idx_of_drop rfl) (by kernel_rfl) (by kernel_rfl) (by kernel_rfl) (fun _ _ _ h => h) (Or.inl ⟨by rfl, ?yc8⟩) (by assumption) ?rc8
          case yc8 => (intro w hSw; go_simp <;> with_reducible rfl)
          (try simp only [Act.put, List.setIfInBounds_toArray, List.set_cons_zero, List.set_cons_succ])
          refine wpAnyH_take (i := 8) (v := ?vc9) (idx_of_drop rfl) (by kernel_rfl) (by kernel_rfl) (by kernel_rfl) (fun _ _ _ h => h) (Or.inl ⟨by rfl, ?yc9⟩) (by assumption) ?rc9
          case yc9 => (intro w hSw; go_simp <;> with_reducible rfl)
          (try simp only [Act.put, List.setIfInBounds_toArray, List.set_cons_zero, List.set_cons_succ])
          refine wpAnyH_take (i := 10) (v := ?vc10) (idx_of_drop rfl) (by kernel_rfl) (by kernel_rfl) (by kernel_rfl) (fun _ _ _ h => h) (Or.inl ⟨by rfl, ?yc10⟩) (by assumption) ?rc10
          case yc10 => (intro w hSw; go_simp <;> with_reducible rfl)
          (try simp only [Act.put, List.setIfInBounds_toArray, List.set_cons_zero, List.set_cons_succ])
          refine wpAnyH_take (i := 11) (v := ?vc11) (idx_of_drop rfl) (by kernel_rfl) (by kernel_rfl) (by kernel_rfl) (fun _ _ _ h => h) (Or.inl ⟨by rfl, ?yc11⟩) (by assumption) ?rc11
          case yc11 => (intro w hSw; go_simp <;> with_reducible rfl)
          (try simp only [Act.put, List.setIfInBounds_toArray, List.set_cons_zero, List.set_cons_succ])
          refine wpAnyH_take (i := 12) (v := ?vc12) (idx_of_drop rfl) (by kernel_rfl) (by kernel_rfl) (by kernel_rfl) (fun _ _ _ h => h) (Or.inl ⟨by rfl, ?yc12⟩) (by assumption) ?rc12
          case yc12 => (intro w hSw; go_simp <;> with_reducible rfl)
          (try simp only [Act.put, List.setIfInBounds_toArray, List.set_cons_zero, List.set_cons_succ])
          refine wpAnyH_ready (rs := [9, 13]) (by kernel_rfl) (by simp) ?_
          refine AllReadyH.cons (idx_of_drop rfl) (fun K hK => ?sc13) ?mc13
          case sc13 =>
            rw [if_pos (by rfl)]
            refine wp_load_mid 33 (.tmp 121) rfl g _ (by rfl) _ _ (HBD.out.range (j := p) (by have := HK1.out; omega)).1 Tryd.underlying33 rfl info33s ?_
            refine hK.out _ _ (by exact trivial) (fun hHeld => ?_)
            clear hK K
            (try simp only [Act.put, List.setIfInBounds_toArray, List.set_cons_zero, List.set_cons_succ])
            refine wpAnyH_ready (rs := [13]) (by kernel_rfl) (by simp) ?_
            refine AllReadyH.cons (idx_of_drop rfl) (fun K hK => ?sc14) ?mc14
            case sc14 =>
              rw [if_pos (by rfl)]
              refine wp_load_mid 33 (.tmp 125) rfl g _ (by rfl) _ _ (HBD.out.range (j := p + 1) (by have := HK1.out; omega)).1 Tryd.underlying33 rfl info33s ?_
              refine hK.out _ _ (by exact trivial) (fun hHeld => ?_)
              clear hK K
              (try simp only [Act.put, List.setIfInBounds_toArray, List.set_cons_zero, List.set_cons_succ])
              refine wpAnyH_take (i := 14) (v := ?vc15) (idx_of_drop rfl) (by kernel_rfl) (by kernel_rfl) (by kernel_rfl) (fun _ _ _ h => h) (Or.inl ⟨by rfl, ?yc15⟩) (by assumption) ?rc15
              case yc15 => (intro w hSw; go_simp <;> with_reducible rfl)
              (try simp only [Act.put, List.setIfInBounds_toArray, List.set_cons_zero, List.set_cons_succ])
              refine wpAnyH_ready (rs := [15]) (by kernel_rfl) (by simp) ?_
              refine AllReadyH.cons (idx_of_drop rfl) (fun K hK => ?sc16) ?mc16
              case sc16 =>
                rw [if_pos (by rfl)]
                refine wp_store_mid 33 (.tmp 127) (.tmp 122) rfl g ((p + 1) * 4) (VK.getD (p) default).cells.toArray (by rfl) (by rfl) (HBD.out.range (j := p + 1) (by have := HK1.out; omega)).2 info33s (all_oneCell_toArray (one4 _)) ?_
                refine hK.out _ _ (by exact trivial) (fun hHeld => ?_)
                clear hK K
                (try simp only [Act.put, List.setIfInBounds_toArray, List.set_cons_zero, List.set_cons_succ])
                refine wpAnyH_take (i := 16) (v := ?vc17) (idx_of_drop rfl) (by kernel_rfl) (by kernel_rfl) (by kernel_rfl) (fun _ _ _ h => h) (Or.inl ⟨by rfl, ?yc17⟩) (by assumption) ?rc17
                case yc17 => (intro w hSw; go_simp <;> with_reducible rfl)
                (try simp only [Act.put, List.setIfInBounds_toArray, List.set_cons_zero, List.set_cons_succ])
                refine wpAnyH_ready (rs := [17]) (by kernel_rfl) (by simp) ?_
                refine AllReadyH.cons (idx_of_drop rfl) (fun K hK => ?sc18) ?mc18
                case sc18 =>
                  rw [if_pos (by rfl)]
                  refine wp_store_mid 33 (.tmp 128) (.tmp 126) rfl g ((p) * 4) (VK.getD (p + 1) default).cells.toArray (by rfl) (by rfl) ((HBD.out.put (j := p + 1) (by have := HK1.out; omega) (VK.getD (p) default)).range (j := p) (by have := HK1.out; omega)).2 info33s (all_oneCell_toArray (one4 _)) ?_
                  refine hK.out _ _ (by exact trivial) (fun hHeld => ?_)
                  clear hK K
                  (try simp only [Act.put, List.setIfInBounds_toArray, List.set_cons_zero, List.set_cons_succ])
                  refine wpAnyH_done (by kernel_rfl) ?_ _
                  rename_i hH; clear hH
                  go_wp2_with fail
                  go_roundw
                  case rel =>
                    refine ⟨p, by go_num, (by have := HK1.out; omega : a + s ≤ p ∧ p ≤ m), ?_, frg_setCells _ _ _ _ (frg_setCells _ _ _ _ HFK.out.drew)⟩
                    show BR _ _ _ _ _
                    have hsw := HBD.out.swap (i := p + 1) (j := p) (by have := HK1.out; omega) (by have := HK1.out; omega)
                    have e : swl VK (p + 1) p = L ++ X.take (p - a) ++ y :: X.drop (p - a) ++ R := by
                      have h1 := HK1.out
                      have h3 := HL.out
                      have h4 := sw_back (L := L) (X := X) (R := R) (y := y) (a := a) (t := p - a) HL.out.2.2.2.1 (by omega)
                      rw [show a + (p - a) = p by omega, show p - a + 1 = p + 1 - a by omega, HVK.out] at h4
                      exact h4
                    rw [← e]
                    exact hsw
                  case measure => simp [intOf]
                exact AllReadyH.nil
              exact AllReadyH.nil
            exact AllReadyH.nil
          refine AllReadyH.cons (idx_of_drop rfl) (fun K hK => ?sc19) ?mc19
          case sc19 =>
            rw [if_pos (by rfl)]
            refine wp_load_mid 33 (.tmp 125) rfl g _ (by rfl) _ _ (HBD.out.range (j := p + 1) (by have := HK1.out; omega)).1 Tryd.underlying33 rfl info33s ?_
            refine hK.out _ _ (by exact trivial) (fun hHeld => ?_)
            clear hK K
            (try simp only [Act.put, List.setIfInBounds_toArray, List.set_cons_zero, List.set_cons_succ])
            refine wpAnyH_ready (rs := [9]) (by kernel_rfl) (by simp) ?_
            refine AllReadyH.cons (idx_of_drop rfl) (fun K hK => ?sc20) ?mc20
            case sc20 =>
              rw [if_pos (by rfl)]
              refine wp_load_mid 33 (.tmp 121) rfl g _ (by rfl) _ _ (HBD.out.range (j := p) (by have := HK1.out; omega)).1 Tryd.underlying33 rfl info33s ?_
              refine hK.out _ _ (by exact trivial) (fun hHeld => ?_)
              clear hK K
              (try simp only [Act.put, List.setIfInBounds_toArray, List.set_cons_zero, List.set_cons_succ])
              refine wpAnyH_take (i := 14) (v := ?vc21) (idx_of_drop rfl) (by kernel_rfl) (by kernel_rfl) (by kernel_rfl) (fun _ _ _ h => h) (Or.inl ⟨by rfl, ?yc21⟩) (by assumption) ?rc21
              case yc21 => (intro w hSw; go_simp <;> with_reducible rfl)
              (try simp only [Act.put, List.setIfInBounds_toArray, List.set_cons_zero, List.set_cons_succ])
              refine wpAnyH_ready (rs := [15]) (by kernel_rfl) (by simp) ?_
              refine AllReadyH.cons (idx_of_drop rfl) (fun K hK => ?sc22) ?mc22
              case sc22 =>
                rw [if_pos (by rfl)]
                refine wp_store_mid 33 (.tmp 127) (.tmp 122) rfl g ((p + 1) * 4) (VK.getD (p) default).cells.toArray (by rfl) (by rfl) (HBD.out.range (j := p + 1) (by have := HK1.out; omega)).2 info33s (all_oneCell_toArray (one4 _)) ?_
                refine hK.out _ _ (by exact trivial) (fun hHeld => ?_)
                clear hK K
                (try simp only [Act.put, List.setIfInBounds_toArray, List.set_cons_zero, List.set_cons_succ])
                refine wpAnyH_take (i := 16) (v := ?vc23) (idx_of_drop rfl) (by kernel_rfl) (by kernel_rfl) (by kernel_rfl) (fun _ _ _ h => h) (Or.inl ⟨by rfl, ?yc23⟩) (by assumption) ?rc23
                case yc23 => (intro w hSw; go_simp <;> with_reducible rfl)
                (try simp only [Act.put, List.setIfInBounds_toArray, List.set_cons_zero, List.set_cons_succ])
                refine wpAnyH_ready (rs := [17]) (by kernel_rfl) (by simp) ?_
                refine AllReadyH.cons (idx_of_drop rfl) (fun K hK => ?sc24) ?mc24
                case sc24 =>
                  rw [if_pos (by rfl)]
                  refine wp_store_mid 33 (.tmp 128) (.tmp 126) rfl g ((p) * 4) (VK.getD (p + 1) default).cells.toArray (by rfl) (by rfl) ((HBD.out.put (j := p + 1) (by have := HK1.out; omega) (VK.getD (p) default)).range (j := p) (by have := HK1.out; omega)).2 info33s (all_oneCell_toArray (one4 _)) ?_
                  refine hK.out _ _ (by exact trivial) (fun hHeld => ?_)
                  clear hK K
                  (try simp only [Act.put, List.setIfInBounds_toArray, List.set_cons_zero, List.set_cons_succ])
                  refine wpAnyH_done (by kernel_rfl) ?_ _
                  rename_i hH; clear hH
                  go_wp2_with fail
                  go_roundw
                  case rel =>
                    refine ⟨p, by go_num, (by have := HK1.out; omega : a + s ≤ p ∧ p ≤ m), ?_, frg_setCells _ _ _ _ (frg_setCells _ _ _ _ HFK.out.drew)⟩
                    show BR _ _ _ _ _
                    have hsw := HBD.out.swap (i := p + 1) (j := p) (by have := HK1.out; omega) (by have := HK1.out; omega)
                    have e : swl VK (p + 1) p = L ++ X.take (p - a) ++ y :: X.drop (p - a) ++ R := by
                      have h1 := HK1.out
                      have h3 := HL.out
                      have h4 := sw_back (L := L) (X := X) (R := R) (y := y) (a := a) (t := p - a) HL.out.2.2.2.1 (by omega)
                      rw [show a + (p - a) = p by omega, show p - a + 1 = p + 1 - a by omega, HVK.out] at h4
                      exact h4
                    rw [← e]
                    exact hsw
                  case measure => simp [intOf]
                exact AllReadyH.nil
              exact AllReadyH.nil
            exact AllReadyH.nil
          exact AllReadyH.nil
        · have HKE : Hid (k - a = s) := (by have h1 := HK.out; have h2 := HSE.out; have h3 := HL.out; omega : k - a = s)
          go_wp2_with fail
          refine bodyPost_ret (results_none rfl _ _ _) rfl ?_
          refine ⟨rfl, _, HST.out, ?_, HFK.out⟩
          have := HBK.out
          rw [HKE.out] at this
          simpa using this
end Go.Proofs.YtlgonkopojancaaDoor
namespace Go.Proofs.YtlgonkopojancaaDoor
open Go.RowKit

/-- where the search for the parting stands -/
def Find3 (V : List FV) (mid m lo hi s r : Nat) : Prop := lo ≤ s ∧ s ≤ r ∧ r ≤ hi ∧ (s = lo ∨ lt (V.getD (mid + m - s) default) (V.getD (s - 1) default) = false) ∧ (r = hi ∨ lt (V.getD (mid + m - 1 - r) default) (V.getD r default) = true)
/-- the bounds of the search -/
def Lohi (a m b mid lo hi : Nat) : Prop := (mid < m ∧ lo = mid + m - b ∧ hi = mid) ∨ (m ≤ mid ∧ lo = a ∧ hi = m)
theorem take_last {X : List FV} {s : Nat} (h0 : 0 < s) (h : s ≤ X.length) : X.take s = X.take (s - 1) ++ [X[s - 1]'(by omega)] := by
  have := List.take_succ_eq_append_getElem (l := X) (i := s - 1) (by omega)
  rw [show s - 1 + 1 = s by omega] at this
  exact this
theorem find3_end {L X Y R : List FV} {a m b mid lo hi s e : Nat} (ha : L.length = a) (hm : a + X.length = m) (hb : m + Y.length = b) (hmid : (a + b) / 2 = mid) (hX : 1 < X.length) (hY : 1 < Y.length) (hsx : Srt FV.key X) (hsy : Srt FV.key Y)
    (hlh : Lohi a m b mid lo hi) (h : Find3 (L ++ X ++ Y ++ R) mid m lo hi s s) (he : mid + m - s = e) :
    a ≤ s ∧ s ≤ m ∧ m ≤ e ∧ e ≤ b ∧ s ≤ mid ∧ mid ≤ e ∧ Lss FV.key (Y.take (e - m)) (X.drop (s - a)) ∧ Leq FV.key (X.take (s - a)) (Y.drop (e - m)) := by
  obtain ⟨h1, _, h3, h4, h5⟩ := h
  have hr : a ≤ s ∧ s ≤ m ∧ m ≤ e ∧ e ≤ b ∧ s ≤ mid ∧ mid ≤ e := by rcases hlh with ⟨g1, g2, g3⟩ | ⟨g1, g2, g3⟩ <;> omega
  obtain ⟨r1, r2, r3, r4, r5, r6⟩ := hr
  have gX : ∀ j (hj : j < X.length), (L ++ X ++ Y ++ R).getD (a + j) default = X[j] := fun j hj => by rw [List.append_assoc]; exact getX ha hj
  have gY : ∀ j (hj : j < Y.length), (L ++ X ++ Y ++ R).getD (m + j) default = Y[j] := fun j hj => getX (L := L ++ X) (by simp; omega) hj
  refine ⟨r1, r2, r3, r4, r5, r6, ?_, ?_⟩
  · refine lss_of FV.key (by have := hsy; rw [← List.take_append_drop (e - m) Y] at this; exact srt_left FV.key this) (by have := hsx; rw [← List.take_append_drop (s - a) X] at this; exact srt_right FV.key this) ?_
    by_cases c1 : e = m
    · left; rw [c1, Nat.sub_self]; rfl
    · by_cases c2 : s = m
      · exact .inr (.inl (List.drop_of_length_le (by omega)))
      · refine .inr (.inr ⟨Y[e - m - 1]'(by omega), X[s - a]'(by omega), Y.take (e - m - 1), X.drop (s - a + 1), take_last (by omega) (by omega), List.drop_eq_getElem_cons (by omega), ?_⟩)
        have h6 := h5.resolve_left (by rcases hlh with ⟨g1, g2, g3⟩ | ⟨g1, g2, g3⟩ <;> omega)
        rw [show mid + m - 1 - s = m + (e - m - 1) by omega, show s = a + (s - a) by omega, gY _ (by omega), gX _ (by omega)] at h6
        exact h6
  · refine leq_of FV.key (by have := hsx; rw [← List.take_append_drop (s - a) X] at this; exact srt_left FV.key this) (by have := hsy; rw [← List.take_append_drop (e - m) Y] at this; exact srt_right FV.key this) ?_
    by_cases c1 : s = a
    · left; rw [c1, Nat.sub_self]; rfl
    · by_cases c2 : e = b
      · exact .inr (.inl (List.drop_of_length_le (by omega)))
      · refine .inr (.inr ⟨X[s - a - 1]'(by omega), Y[e - m]'(by omega), X.take (s - a - 1), Y.drop (e - m + 1), take_last (by omega) (by omega), List.drop_eq_getElem_cons (by omega), ?_⟩)
        have h6 := h4.resolve_left (by rcases hlh with ⟨g1, g2, g3⟩ | ⟨g1, g2, g3⟩ <;> omega)
        rw [show mid + m - s = m + (e - m) by omega, show s - 1 = a + (s - a - 1) by omega, gY _ (by omega), gX _ (by omega)] at h6
        exact h6

/-- symMerge of fewer than N elements -/
def SymOk (g n cap N : Nat) : Prop := ∀ (a m b : Nat) (L X Y R : List FV) (w : World), BR g n cap w (L ++ X ++ Y ++ R) → 0 < X.length → 0 < Y.length → L.length = a → a + X.length = m → m + Y.length = b → Srt FV.key X → Srt FV.key Y → X.length + Y.length < N →
  Calls Tryd.prog 58 #[.slice (some ⟨g, 0, none⟩) n cap, .int .i64 a, .int .i64 m, .int .i64 b, cmpV] w (SymPost g n cap L X Y R w)

theorem stable_empty {xs ys : List FV} (h : xs = [] ∨ ys = []) (hx : Srt FV.key xs) (hy : Srt FV.key ys) : StableOf FV.key (xs ++ ys) (xs ++ ys) := by
  rcases h with rfl | rfl
  · exact stable_srt FV.key hy
  · rw [List.append_nil]; exact stable_srt FV.key hx
theorem nil_of {xs : List FV} {n : Nat} (h : xs.length = n) (h0 : n = 0) : xs = [] := List.eq_nil_of_length_eq_zero (h.trans h0)

set_option linter.unusedSimpArgs false in
set_option maxRecDepth 100000 in
set_option maxHeartbeats 16000000 in
theorem sym_two (g n cap a m b : Nat) (L X Y R : List FV) (w : World) (h : BR g n cap w (L ++ X ++ Y ++ R)) (h63 : n ≤ 1000000) (hX : 1 < X.length) (hY : 1 < Y.length) (ha : L.length = a) (hm : a + X.length = m) (hb : m + Y.length = b) (hsx : Srt FV.key X) (hsy : Srt FV.key Y)
    (ih : SymOk g n cap (X.length + Y.length)) :
    Calls Tryd.prog 58 #[.slice (some ⟨g, 0, none⟩) n cap, .int .i64 a, .int .i64 m, .int .i64 b, cmpV] w (SymPost g n cap L X Y R w) := by
  have hl := h.len
  simp only [List.length_append] at hl
  obtain ⟨V, hV⟩ : ∃ V, L ++ X ++ Y ++ R = V := ⟨_, rfl⟩
  rw [hV] at h
  have e35 := enters35
  obtain ⟨mid, hmid⟩ : ∃ mid, (a + b) / 2 = mid := ⟨_, rfl⟩
  have HB := Lib.hid h; have HL := Lib.hid (And.intro hl (And.intro h63 (And.intro hX (And.intro hY (And.intro ha (And.intro hm (And.intro hb hmid))))))); have HV := Lib.hid hV; have HSX := Lib.hid hsx; have HSY := Lib.hid hsy
  have IH := Lib.hid ih
  have i1c : (((m : Int) - (a : Int)) == 1) = false := by rw [beq_eq_false_iff_ne]; omega
  have i1d : (((b : Int) - (m : Int)) == 1) = false := by rw [beq_eq_false_iff_ne]; omega
  have i2 : (m : Int) < b := by omega
  have i3 : (b : Int) ≤ 1000000 := by omega
  have i4 : (a : Int) < m := by omega
  have i5 : (b : Int) ≤ n := by omega
  have i6 : ((a : Int) + (b : Int)) / 2 = (mid : Int) := by omega
  have i7 : (mid : Int) ≤ b := by omega
  have i8 : (a : Int) ≤ mid := by omega
  clear h hl h63 hX hY ha hm hb hV hsx hsy ih hmid
  unfold cmpV
  by_cases hmm : (mid : Int) < m
  · obtain ⟨lo, hi, hlo, hhi⟩ : ∃ lo hi : Nat, lo = mid + m - b ∧ hi = mid := ⟨_, _, rfl, rfl⟩
    have HLH : Hid (Lohi a m b mid lo hi) := (.inl ⟨by omega, hlo, hhi⟩ : Lohi a m b mid lo hi)
    have HLO := Lib.hid (And.intro hlo hhi)
    clear hlo hhi
    go_enter Tryd.func58, Tryd.ntmps58
    go_wp2_with fail
    go_loopw [20, 21, 23] (fun v20 v21 _ wr => ∃ s r : Nat, v20 = .int .i64 s ∧ v21 = .int .i64 r ∧ Hid (Find3 V mid m lo hi s r) ∧ Hid (BR g n cap wr V) ∧ Hid (FrG g w wr)) (fun v20 v21 _ _ => (intOf v21).toNat - (intOf v20).toNat)
    case atStart => exact ⟨lo, hi, by first | (congr 1; have := HLO.out; omega), by first | (congr 1; have := HLO.out; omega), ⟨Nat.le_refl _, by have h1 := HLO.out; have h2 := HL.out; omega, Nat.le_refl _, .inl rfl, .inl rfl⟩, HB.out, Fr.refl _ _⟩
    case round =>
      obtain ⟨s, r, rfl, rfl, HI, HBR, HF⟩ := hrel
      have q1 : (s : Int) ≤ r := by have := HI.out; unfold Find3 at this; omega
      have q0 : s ≤ mid ∧ s ≤ m ∧ a ≤ s ∧ r ≤ mid ∧ r ≤ m ∧ mid + m - s ≤ b := by have h1 := HI.out; have h2 := HLH.out; have h3 := HL.out; unfold Find3 at h1; unfold Lohi at h2; omega
      have q2 : (r : Int) ≤ mid := by omega
      have q3 : (a : Int) ≤ s := by omega
      have Q0 := Lib.hid q0; clear q0
      by_cases hij : (s : Int) < r
      · obtain ⟨p, hp⟩ : ∃ p, (s + r) / 2 = p := ⟨_, rfl⟩
        obtain ⟨o, ho⟩ : ∃ o, mid + m - 1 - p = o := ⟨_, rfl⟩
        have p1 : ((s : Int) + (r : Int)) / 2 = (p : Int) := by omega
        have p2 : (p : Int) < r := by omega
        have p3 : (s : Int) ≤ p := by omega
        have p4 : (p : Int) < n := by omega
        have p6 : (mid : Int) + (m : Int) - 1 - (p : Int) = (o : Int) := by have := Q0.out; omega
        have p5 : (o : Int) < n := by have := Q0.out; omega
        have p7 : (0 : Int) ≤ (o : Int) := by omega
        have p8 : IntKind.i64.wrap (o : Int) = (o : Int) := by have := HL.out; rw [IntKind.wrap_i64]; omega
        have P0 := Lib.hid (And.intro hp ho); clear hp ho
        have HS0 := Lib.hid (range2 (p := o) (q := p) HBR.out (by omega) (by omega))
        by_cases hlt : lt (V.getD o default) (V.getD p default) = true
        · have HC : Hid (cmpI (V.getD o default).f.name (V.getD p default).f.name = -1) := cmp_neg hlt
          have HF1 : Hid (Find3 V mid m lo hi s p) := (by
            obtain ⟨h1, h2, h3, h4, h5⟩ := HI.out
            have h6 := P0.out
            exact ⟨h1, by omega, by omega, h4, .inr (by rw [h6.2]; exact hlt)⟩ : Find3 V mid m lo hi s p)
          clear hlt
          go_wp2_with fail
          refine wp_region_held_drew (S := fun w' => w'.rangeAt g ((o) * 4) (V.getD (o) default).cells ∧ w'.rangeAt g ((p) * 4) (V.getD (p) default).cells) (by kernel_rfl) (by exact HS0.out _ (Fr.refl _ _).drew) (fun hHeld => ?_)
          refine wpAnyH_take (i := 0) (v := ?vua1) (idx_of_drop rfl) (by kernel_rfl) (by kernel_rfl) (by kernel_rfl) (fun _ _ _ h => h) (Or.inl ⟨by rfl, ?yua1⟩) (by assumption) ?rua1
          case yua1 => (intro w hSw; go_simp <;> with_reducible rfl)
          (try simp only [Act.put, List.setIfInBounds_toArray, List.set_cons_zero, List.set_cons_succ])
          refine wpAnyH_take (i := 1) (v := ?vua2) (idx_of_drop rfl) (by kernel_rfl) (by kernel_rfl) (by kernel_rfl) (fun _ _ _ h => h) (Or.inl ⟨by rfl, ?yua2⟩) (by assumption) ?rua2
          case yua2 => (intro w hSw; go_simp <;> with_reducible rfl)
          (try simp only [Act.put, List.setIfInBounds_toArray, List.set_cons_zero, List.set_cons_succ])
          refine wpAnyH_take (i := 2) (v := ?vua3) (idx_of_drop rfl) (by kernel_rfl) (by kernel_rfl) (by kernel_rfl) (fun _ _ _ h => h) (Or.inl ⟨by rfl, ?yua3⟩) (by assumption) ?rua3
          case yua3 => (intro w hSw; go_simp <;> with_reducible rfl)
          (try simp only [Act.put, List.setIfInBounds_toArray, List.set_cons_zero, List.set_cons_succ])
          refine wpAnyH_take (i := 3) (v := ?vua4) (idx_of_drop rfl) (by kernel_rfl) (by kernel_rfl) (by kernel_rfl) (fun _ _ _ h => h) (Or.inl ⟨by rfl, ?yua4⟩) (by assumption) ?rua4
          case yua4 => (intro w hSw; go_simp <;> with_reducible rfl)
          (try simp only [Act.put, List.setIfInBounds_toArray, List.set_cons_zero, List.set_cons_succ])
          refine wpAnyH_take (i := 4) (v := ?vua5) (idx_of_drop rfl) (by kernel_rfl) (by kernel_rfl) (by kernel_rfl) (fun _ _ _ h => h) (Or.inl ⟨by rfl, ?yua5⟩) (by assumption) ?rua5
          case yua5 => (intro w hSw; go_simp <;> with_reducible rfl)
          (try simp only [Act.put, List.setIfInBounds_toArray, List.set_cons_zero, List.set_cons_succ])
          refine wpAnyH_take (i := 5) (v := ?vua6) (idx_of_drop rfl) (by kernel_rfl) (by kernel_rfl) (by kernel_rfl) (fun _ _ _ h => h) (Or.inl ⟨by rfl, ?yua6⟩) (by assumption) ?rua6
          case yua6 => (intro w hSw; go_simp <;> with_reducible rfl)
          (try simp only [Act.put, List.setIfInBounds_toArray, List.set_cons_zero, List.set_cons_succ])
          refine wpAnyH_take (i := 6) (v := .agg (V.getD (o) default).cells.toArray) (idx_of_drop rfl) (by kernel_rfl) (by kernel_rfl) (by kernel_rfl) (fun _ _ _ h => h) (yieldsIf_load_mid (by rfl) 33 (.tmp 163) rfl g ((o) * 4) (by rfl) (V.getD (o) default).cells _ (fun w hw => hw.1) Tryd.underlying33 rfl info33s) (by assumption) ?rua7
          (try simp only [Act.put, List.setIfInBounds_toArray, List.set_cons_zero, List.set_cons_succ])
          refine wpAnyH_take (i := 7) (v := ?vua8) (idx_of_drop rfl) (by kernel_rfl) (by kernel_rfl) (by kernel_rfl) (fun _ _ _ h => h) (Or.inl ⟨by rfl, ?yua8⟩) (by assumption) ?rua8
          case yua8 => (intro w hSw; go_simp <;> with_reducible rfl)
          (try simp only [Act.put, List.setIfInBounds_toArray, List.set_cons_zero, List.set_cons_succ])
          refine wpAnyH_take (i := 8) (v := ?vua9) (idx_of_drop rfl) (by kernel_rfl) (by kernel_rfl) (by kernel_rfl) (fun _ _ _ h => h) (Or.inl ⟨by rfl, ?yua9⟩) (by assumption) ?rua9
          case yua9 => (intro w hSw; go_simp <;> with_reducible rfl)
          (try simp only [Act.put, List.setIfInBounds_toArray, List.set_cons_zero, List.set_cons_succ])
          refine wpAnyH_take (i := 9) (v := ?vua10) (idx_of_drop rfl) (by kernel_rfl) (by kernel_rfl) (by kernel_rfl) (fun _ _ _ h => h) (Or.inl ⟨by rfl, ?yua10⟩) (by assumption) ?rua10
          case yua10 => (intro w hSw; go_simp <;> with_reducible rfl)
          (try simp only [Act.put, List.setIfInBounds_toArray, List.set_cons_zero, List.set_cons_succ])
          refine wpAnyH_take (i := 10) (v := .agg (V.getD (p) default).cells.toArray) (idx_of_drop rfl) (by kernel_rfl) (by kernel_rfl) (by kernel_rfl) (fun _ _ _ h => h) (yieldsIf_load_mid (by rfl) 33 (.tmp 167) rfl g ((p) * 4) (by rfl) (V.getD (p) default).cells _ (fun w hw => hw.2) Tryd.underlying33 rfl info33s) (by assumption) ?rua11
          (try simp only [Act.put, List.setIfInBounds_toArray, List.set_cons_zero, List.set_cons_succ])
          refine wpAnyH_ready (rs := [11]) (by kernel_rfl) (by simp) ?_
          refine AllReadyH.cons (idx_of_drop rfl) (fun K hK => ?sua12) ?mua12
          case sua12 =>
            go_simp
            refine (cmp_told (V.getD (o) default) (V.getD (p) default) _).mono ?_
            rintro e wc ⟨rfl, hsc⟩
            have hsc2 := (Fr.refl (fun _ => False) wr).drew.trans' hsc
            rw [HC.out]
            refine hK.out _ _ (by exact HS0.out _ hsc2) (fun hHeld => ?_)
            clear hK K
            (try simp only [Act.put, List.setIfInBounds_toArray, List.set_cons_zero, List.set_cons_succ])
            refine wpAnyH_take (i := 12) (v := ?vua13) (idx_of_drop rfl) (by kernel_rfl) (by kernel_rfl) (by kernel_rfl) (fun _ _ _ h => h) (Or.inl ⟨by rfl, ?yua13⟩) (by assumption) ?rua13
            case yua13 => (intro w hSw; go_simp <;> with_reducible rfl)
            (try simp only [Act.put, List.setIfInBounds_toArray, List.set_cons_zero, List.set_cons_succ])
            refine wpAnyH_take (i := 13) (v := ?vua14) (idx_of_drop rfl) (by kernel_rfl) (by kernel_rfl) (by kernel_rfl) (fun _ _ _ h => h) (Or.inl ⟨by rfl, ?yua14⟩) (by assumption) ?rua14
            case yua14 => (intro w hSw; go_simp <;> with_reducible rfl)
            (try simp only [Act.put, List.setIfInBounds_toArray, List.set_cons_zero, List.set_cons_succ])
            refine wpAnyH_done (by kernel_rfl) ?_ _
            rename_i hH; clear hH
            go_wp2_with fail
            go_roundw
            case rel => exact ⟨s, p, rfl, rfl, HF1.out, HBR.out.same hsc2, HF.out.trans hsc2 (fun _ _ e => e) (fun _ _ e => e.elim)⟩
            case measure => simp [intOf]; omega
          exact AllReadyH.nil
        · have hlt2 : lt (V.getD o default) (V.getD p default) = false := by simpa using hlt
          obtain ⟨q, hq⟩ : ∃ q, cmpI (V.getD o default).f.name (V.getD p default).f.name = q := ⟨_, rfl⟩
          have hq0 : 0 ≤ q := by rw [← hq]; exact cmp_pos hlt2
          have hq1 : ¬ q < 0 := by omega
          have hq2 : decide (q < 0) = false := decide_eq_false hq1
          have hq3 : (!decide (q < 0)) = true := by rw [hq2]; rfl
          have HC := Lib.hid hq
          have HF1 : Hid (Find3 V mid m lo hi (p + 1) r) := (by
            obtain ⟨h1, h2, h3, h4, h5⟩ := HI.out
            have h6 := P0.out
            have h7 := Q0.out
            exact ⟨by omega, by omega, h3, .inr (by rw [Nat.add_sub_cancel, show mid + m - (p + 1) = o by omega]; exact hlt2), h5⟩ : Find3 V mid m lo hi (p + 1) r)
          clear hlt hlt2 hq hq0
          go_wp2_with fail
          refine wp_region_held_drew (S := fun w' => w'.rangeAt g ((o) * 4) (V.getD (o) default).cells ∧ w'.rangeAt g ((p) * 4) (V.getD (p) default).cells) (by kernel_rfl) (by exact HS0.out _ (Fr.refl _ _).drew) (fun hHeld => ?_)
          refine wpAnyH_take (i := 0) (v := ?vub1) (idx_of_drop rfl) (by kernel_rfl) (by kernel_rfl) (by kernel_rfl) (fun _ _ _ h => h) (Or.inl ⟨by rfl, ?yub1⟩) (by assumption) ?rub1
          case yub1 => (intro w hSw; go_simp <;> with_reducible rfl)
          (try simp only [Act.put, List.setIfInBounds_toArray, List.set_cons_zero, List.set_cons_succ])
          refine wpAnyH_take (i := 1) (v := ?vub2) (idx_of_drop rfl) (by kernel_rfl) (by kernel_rfl) (by kernel_rfl) (fun _ _ _ h => h) (Or.inl ⟨by rfl, ?yub2⟩) (by assumption) ?rub2
          case yub2 => (intro w hSw; go_simp <;> with_reducible rfl)
          (try simp only [Act.put, List.setIfInBounds_toArray, List.set_cons_zero, List.set_cons_succ])
          refine wpAnyH_take (i := 2) (v := ?vub3) (idx_of_drop rfl) (by kernel_rfl) (by kernel_rfl) (by kernel_rfl) (fun _ _ _ h => h) (Or.inl ⟨by rfl, ?yub3⟩) (by assumption) ?rub3
          case yub3 => (intro w hSw; go_simp <;> with_reducible rfl)
          (try simp only [Act.put, List.setIfInBounds_toArray, List.set_cons_zero, List.set_cons_succ])
          refine wpAnyH_take (i := 3) (v := ?vub4) (idx_of_drop rfl) (by kernel_rfl) (by kernel_rfl) (by kernel_rfl) (fun _ _ _ h => h) (Or.inl ⟨by rfl, ?yub4⟩) (by assumption) ?rub4
          case yub4 => (intro w hSw; go_simp <;> with_reducible rfl)
          (try simp only [Act.put, List.setIfInBounds_toArray, List.set_cons_zero, List.set_cons_succ])
          refine wpAnyH_take (i := 4) (v := ?vub5) (idx_of_drop rfl) (by kernel_rfl) (by kernel_rfl) (by kernel_rfl) (fun _ _ _ h => h) (Or.inl ⟨by rfl, ?yub5⟩) (by assumption) ?rub5
          case yub5 => (intro w hSw; go_simp <;> with_reducible rfl)
          (try simp only [Act.put, List.setIfInBounds_toArray, List.set_cons_zero, List.set_cons_succ])
          refine wpAnyH_take (i := 5) (v := ?vub6) (idx_of_drop rfl) (by kernel_rfl) (by kernel_rfl) (by kernel_rfl) (fun _ _ _ h => h) (Or.inl ⟨by rfl, ?yub6⟩) (by assumption) ?rub6
          case yub6 => (intro w hSw; go_simp <;> with_reducible rfl)
          (try simp only [Act.put, List.setIfInBounds_toArray, List.set_cons_zero, List.set_cons_succ])
          refine wpAnyH_take (i := 6) (v := .agg (V.getD (o) default).cells.toArray) (idx_of_drop rfl) (by kernel_rfl) (by kernel_rfl) (by kernel_rfl) (fun _ _ _ h => h) (yieldsIf_load_mid (by rfl) 33 (.tmp 163) rfl g ((o) * 4) (by rfl) (V.getD (o) default).cells _ (fun w hw => hw.1) Tryd.underlying33 rfl info33s) (by assumption) ?rub7
          (try simp only [Act.put, List.setIfInBounds_toArray, List.set_cons_zero, List.set_cons_succ])
          refine wpAnyH_take (i := 7) (v := ?vub8) (idx_of_drop rfl) (by kernel_rfl) (by kernel_rfl) (by kernel_rfl) (fun _ _ _ h => h) (Or.inl ⟨by rfl, ?yub8⟩) (by assumption) ?rub8
          case yub8 => (intro w hSw; go_simp <;> with_reducible rfl)
          (try simp only [Act.put, List.setIfInBounds_toArray, List.set_cons_zero, List.set_cons_succ])
          refine wpAnyH_take (i := 8) (v := ?vub9) (idx_of_drop rfl) (by kernel_rfl) (by kernel_rfl) (by kernel_rfl) (fun _ _ _ h => h) (Or.inl ⟨by rfl, ?yub9⟩) (by assumption) ?rub9
          case yub9 => (intro w hSw; go_simp <;> with_reducible rfl)
          (try simp only [Act.put, List.setIfInBounds_toArray, List.set_cons_zero, List.set_cons_succ])
          refine wpAnyH_take (i := 9) (v := ?vub10) (idx_of_drop rfl) (by kernel_rfl) (by kernel_rfl) (by kernel_rfl) (fun _ _ _ h => h) (Or.inl ⟨by rfl, ?yub10⟩) (by assumption) ?rub10
          case yub10 => (intro w hSw; go_simp <;> with_reducible rfl)
          (try simp only [Act.put, List.setIfInBounds_toArray, List.set_cons_zero, List.set_cons_succ])
          refine wpAnyH_take (i := 10) (v := .agg (V.getD (p) default).cells.toArray) (idx_of_drop rfl) (by kernel_rfl) (by kernel_rfl) (by kernel_rfl) (fun _ _ _ h => h) (yieldsIf_load_mid (by rfl) 33 (.tmp 167) rfl g ((p) * 4) (by rfl) (V.getD (p) default).cells _ (fun w hw => hw.2) Tryd.underlying33 rfl info33s) (by assumption) ?rub11
          (try simp only [Act.put, List.setIfInBounds_toArray, List.set_cons_zero, List.set_cons_succ])
          refine wpAnyH_ready (rs := [11]) (by kernel_rfl) (by simp) ?_
          refine AllReadyH.cons (idx_of_drop rfl) (fun K hK => ?sub12) ?mub12
          case sub12 =>
            go_simp
            refine (cmp_told (V.getD (o) default) (V.getD (p) default) _).mono ?_
            rintro e wc ⟨rfl, hsc⟩
            have hsc2 := (Fr.refl (fun _ => False) wr).drew.trans' hsc
            rw [HC.out]
            refine hK.out _ _ (by exact HS0.out _ hsc2) (fun hHeld => ?_)
            clear hK K
            (try simp only [Act.put, List.setIfInBounds_toArray, List.set_cons_zero, List.set_cons_succ])
            refine wpAnyH_take (i := 12) (v := ?vub13) (idx_of_drop rfl) (by kernel_rfl) (by kernel_rfl) (by kernel_rfl) (fun _ _ _ h => h) (Or.inl ⟨by rfl, ?yub13⟩) (by assumption) ?rub13
            case yub13 => (intro w hSw; go_simp <;> with_reducible rfl)
            (try simp only [Act.put, List.setIfInBounds_toArray, List.set_cons_zero, List.set_cons_succ])
            refine wpAnyH_take (i := 13) (v := ?vub14) (idx_of_drop rfl) (by kernel_rfl) (by kernel_rfl) (by kernel_rfl) (fun _ _ _ h => h) (Or.inl ⟨by rfl, ?yub14⟩) (by assumption) ?rub14
            case yub14 => (intro w hSw; go_simp <;> with_reducible rfl)
            (try simp only [Act.put, List.setIfInBounds_toArray, List.set_cons_zero, List.set_cons_succ])
            refine wpAnyH_done (by kernel_rfl) ?_ _
            rename_i hH; clear hH
            go_wp2_with fail
            go_roundw
            case rel => exact ⟨p + 1, r, by go_num, rfl, HF1.out, HBR.out.same hsc2, HF.out.trans hsc2 (fun _ _ e => e) (fun _ _ e => e.elim)⟩
            case measure => simp [intOf]; omega
          exact AllReadyH.nil
      · have HIJ : Hid (s = r) := (by omega : s = r)
        obtain ⟨e, he⟩ : ∃ e, mid + m - s = e := ⟨_, rfl⟩
        have h0 := HL.out
        have hend := find3_end (L := L) (X := X) (Y := Y) (R := R) (a := a) (m := m) (b := b) (mid := mid) (lo := lo) (hi := hi) (s := s) (e := e) h0.2.2.2.2.1 h0.2.2.2.2.2.1 h0.2.2.2.2.2.2.1 h0.2.2.2.2.2.2.2 h0.2.2.1 h0.2.2.2.1 HSX.out HSY.out HLH.out (by
          have h1 := HI.out
          rw [← HIJ.out] at h1
          rw [HV.out]
          exact h1) he
        have e1 : (mid : Int) + (m : Int) - (s : Int) = (e : Int) := by have := Q0.out; omega
        obtain ⟨r1, r2, r3, r4, r5, r6, hlss, hleq⟩ := hend
        obtain ⟨X1, hX1⟩ : ∃ l, X.take (s - a) = l := ⟨_, rfl⟩
        obtain ⟨X2, hX2⟩ : ∃ l, X.drop (s - a) = l := ⟨_, rfl⟩
        obtain ⟨Y1, hY1⟩ : ∃ l, Y.take (e - m) = l := ⟨_, rfl⟩
        obtain ⟨Y2, hY2⟩ : ∃ l, Y.drop (e - m) = l := ⟨_, rfl⟩
        have hXe : X = X1 ++ X2 := by rw [← hX1, ← hX2, List.take_append_drop]
        have hYe : Y = Y1 ++ Y2 := by rw [← hY1, ← hY2, List.take_append_drop]
        have lX1 : X1.length = s - a := by rw [← hX1, List.length_take]; omega
        have lX2 : X2.length = m - s := by rw [← hX2, List.length_drop]; omega
        have lY1 : Y1.length = e - m := by rw [← hY1, List.length_take]; omega
        have lY2 : Y2.length = b - e := by rw [← hY2, List.length_drop]; omega
        have lY1' : Y1.length = mid - s := by omega
        have lX2' : X2.length = e - mid := by omega
        rw [hX2, hY1] at hlss
        rw [hX1, hY2] at hleq
        have hsx1 : Srt FV.key (X1 ++ X2) := hXe ▸ HSX.out
        have hsy1 : Srt FV.key (Y1 ++ Y2) := hYe ▸ HSY.out
        have HFIN : Hid (∀ Z1 Z2, StableOf FV.key (X1 ++ Y1) Z1 → StableOf FV.key (X2 ++ Y2) Z2 → StableOf FV.key (X ++ Y) (Z1 ++ Z2)) := (fun Z1 Z2 z1 z2 => by rw [hXe, hYe]; exact stable_parts FV.key hsx1 hsy1 hlss hleq z1 z2 : ∀ Z1 Z2, StableOf FV.key (X1 ++ Y1) Z1 → StableOf FV.key (X2 ++ Y2) Z2 → StableOf FV.key (X ++ Y) (Z1 ++ Z2))
        have HSP := Lib.hid (And.intro (srt_left FV.key hsx1) (And.intro (srt_right FV.key hsx1) (And.intro (srt_left FV.key hsy1) (srt_right FV.key hsy1))))
        have HLN := Lib.hid (And.intro lX1 (And.intro lX2 (And.intro lY1 (And.intro lY2 (And.intro lY1' (And.intro lX2' (And.intro r1 (And.intro r2 (And.intro r3 (And.intro r4 (And.intro r5 (And.intro r6 he))))))))))))
        have hbr0 : BR g n cap wr (L ++ X1 ++ X2 ++ Y1 ++ Y2 ++ R) := by
          have := HBR.out
          rw [← HV.out, hXe, hYe] at this
          simpa using this
        have HB0 := Lib.hid hbr0
        have u1 : (m : Int) ≤ e := by omega
        have u2 : (e : Int) ≤ b := by omega
        have u3 : (s : Int) ≤ m := by omega
        have u4 : (mid : Int) ≤ e := by omega
        have u5 : (s : Int) ≤ mid := by omega
        clear hXe hYe lX1 lX2 lY1 lY2 lY1' lX2' hlss hleq hsx1 hsy1 hX1 hX2 hY1 hY2 he h0 r1 r2 r3 r4 r5 r6 hbr0 q1
        by_cases cx1 : a < s
        · have kx1 : decide (a < s) = true := decide_eq_true cx1
          by_cases cy1 : m < e
          · have ky1 : decide (m < e) = true := decide_eq_true cy1
            by_cases cx2 : s < m
            · have kx2 : decide (s < m) = true := decide_eq_true cx2
              by_cases cy2 : e < b
              · have ky2 : decide (e < b) = true := decide_eq_true cy2
                have g1 : (s : Int) < m := by omega
                have g2 : (m : Int) < e := by omega
                have g3 : (a : Int) < s := by omega
                have g4 : (s : Int) < mid := by have h1 := HLN.out; have h2 := HL.out; omega
                have g5 : (mid : Int) < e := by have h1 := HLN.out; have h2 := HL.out; omega
                have g6 : (e : Int) < b := by omega
                have CC := Lib.hid (And.intro cx1 (And.intro cy1 (And.intro cx2 cy2)))
                clear cx1 cy1 cx2 cy2
                go_wp2_with fail
                have hb0 : BR g n cap wr ((L ++ X1) ++ X2 ++ Y1 ++ (Y2 ++ R)) := by simpa using HB0.out
                refine (rotate_any g n cap s m e _ (L ++ X1) X2 Y1 (Y2 ++ R) wr hb0 HL.out.2.1 (by have h1 := HLN.out; have h2 := HL.out; omega) (by have h1 := HLN.out; have h2 := HL.out; omega) (by rw [List.length_append]; have h1 := HLN.out; have h2 := HL.out; omega) (by have h1 := HLN.out; have h2 := HL.out; omega) (by have h1 := HLN.out; have h2 := HL.out; omega)).mono ?_
                rintro ee w1 ⟨rfl, hb1, hf1⟩
                have HB1 : Hid (BR g n cap w1 (L ++ X1 ++ Y1 ++ (X2 ++ (Y2 ++ R)))) := (by simpa using hb1 : BR g n cap w1 (L ++ X1 ++ Y1 ++ (X2 ++ (Y2 ++ R))))
                have HF1 := Lib.hid (HF.out.trans' hf1)
                clear hb0 hb1 hf1
                go_wp2_with fail
                refine (IH.out a s mid L X1 Y1 (X2 ++ (Y2 ++ R)) w1 HB1.out (by have h1 := HLN.out; have h2 := HL.out; omega) (by have h1 := HLN.out; have h2 := HL.out; omega) HL.out.2.2.2.2.1 (by have h1 := HLN.out; have h2 := HL.out; omega) (by have h1 := HLN.out; have h2 := HL.out; omega) HSP.out.1 HSP.out.2.2.1 (by have h1 := HLN.out; have h2 := HL.out; omega)).mono ?_
                rintro ee w2 ⟨rfl, Z1, hz1, hb2, hf2⟩
                have HZ1 := Lib.hid hz1
                have HB2 : Hid (BR g n cap w2 ((L ++ Z1) ++ X2 ++ Y2 ++ R)) := (by simpa using hb2 : BR g n cap w2 ((L ++ Z1) ++ X2 ++ Y2 ++ R))
                have HF2 := Lib.hid (HF1.out.trans' hf2)
                clear hz1 hb2 hf2
                go_wp2_with fail
                have hlz : (L ++ Z1).length = mid := by have h3 := HB2.out.len; have h4 := HB1.out.len; simp only [List.length_append] at h3 h4 ⊢; have h1 := HLN.out; have h2 := HL.out; omega
                refine (IH.out mid e b (L ++ Z1) X2 Y2 R w2 HB2.out (by have h1 := HLN.out; have h2 := HL.out; omega) (by have h1 := HLN.out; have h2 := HL.out; omega) hlz (by have h1 := HLN.out; have h2 := HL.out; omega) (by have h1 := HLN.out; have h2 := HL.out; omega) HSP.out.2.1 HSP.out.2.2.2 (by have h1 := HLN.out; have h2 := HL.out; omega)).mono ?_
                rintro ee w3 ⟨rfl, Z2, hz2, hb3, hf3⟩
                have HFIN2 : Hid (SymPost g n cap L X Y R w (.returned (.tuple #[])) w3) := (⟨rfl, Z1 ++ Z2, HFIN.out Z1 Z2 HZ1.out hz2, by simpa using hb3, HF2.out.trans' hf3⟩ : SymPost g n cap L X Y R w (.returned (.tuple #[])) w3)
                clear hz2 hb3 hf3 hlz
                go_wp2_with fail
                go_end0
                exact HFIN2.out
              · have ky2 : decide (e < b) = false := decide_eq_false cy2
                have g1 : (s : Int) < m := by omega
                have g2 : (m : Int) < e := by omega
                have g3 : (a : Int) < s := by omega
                have g4 : (s : Int) < mid := by have h1 := HLN.out; have h2 := HL.out; omega
                have g5 : (mid : Int) < e := by have h1 := HLN.out; have h2 := HL.out; omega
                have g6 : ¬ (e : Int) < b := by omega
                have CC := Lib.hid (And.intro cx1 (And.intro cy1 (And.intro cx2 cy2)))
                clear cx1 cy1 cx2 cy2
                go_wp2_with fail
                have hb0 : BR g n cap wr ((L ++ X1) ++ X2 ++ Y1 ++ (Y2 ++ R)) := by simpa using HB0.out
                refine (rotate_any g n cap s m e _ (L ++ X1) X2 Y1 (Y2 ++ R) wr hb0 HL.out.2.1 (by have h1 := HLN.out; have h2 := HL.out; omega) (by have h1 := HLN.out; have h2 := HL.out; omega) (by rw [List.length_append]; have h1 := HLN.out; have h2 := HL.out; omega) (by have h1 := HLN.out; have h2 := HL.out; omega) (by have h1 := HLN.out; have h2 := HL.out; omega)).mono ?_
                rintro ee w1 ⟨rfl, hb1, hf1⟩
                have HB1 : Hid (BR g n cap w1 (L ++ X1 ++ Y1 ++ (X2 ++ (Y2 ++ R)))) := (by simpa using hb1 : BR g n cap w1 (L ++ X1 ++ Y1 ++ (X2 ++ (Y2 ++ R))))
                have HF1 := Lib.hid (HF.out.trans' hf1)
                clear hb0 hb1 hf1
                go_wp2_with fail
                refine (IH.out a s mid L X1 Y1 (X2 ++ (Y2 ++ R)) w1 HB1.out (by have h1 := HLN.out; have h2 := HL.out; omega) (by have h1 := HLN.out; have h2 := HL.out; omega) HL.out.2.2.2.2.1 (by have h1 := HLN.out; have h2 := HL.out; omega) (by have h1 := HLN.out; have h2 := HL.out; omega) HSP.out.1 HSP.out.2.2.1 (by have h1 := HLN.out; have h2 := HL.out; omega)).mono ?_
                rintro ee w2 ⟨rfl, Z1, hz1, hb2, hf2⟩
                have HZ1 := Lib.hid hz1
                have HB2 : Hid (BR g n cap w2 ((L ++ Z1) ++ X2 ++ Y2 ++ R)) := (by simpa using hb2 : BR g n cap w2 ((L ++ Z1) ++ X2 ++ Y2 ++ R))
                have HF2 := Lib.hid (HF1.out.trans' hf2)
                clear hz1 hb2 hf2
                go_wp2_with fail
                have hemp : X2 = [] ∨ Y2 = [] := .inr (nil_of HLN.out.2.2.2.1 (by have h1 := HLN.out; have h2 := HL.out; have h3 := CC.out; omega))
                have HFIN2 : Hid (SymPost g n cap L X Y R w (.returned (.tuple #[])) w2) := (⟨rfl, Z1 ++ (X2 ++ Y2), HFIN.out Z1 (X2 ++ Y2) HZ1.out (stable_empty hemp HSP.out.2.1 HSP.out.2.2.2), by simpa using HB2.out, HF2.out⟩ : SymPost g n cap L X Y R w (.returned (.tuple #[])) w2)
                clear hemp
                go_end0
                exact HFIN2.out
            · have kx2 : decide (s < m) = false := decide_eq_false cx2
              by_cases cy2 : e < b
              · have ky2 : decide (e < b) = true := decide_eq_true cy2
                exfalso; have h1 := HLN.out; have h2 := HL.out; omega
              · have ky2 : decide (e < b) = false := decide_eq_false cy2
                exfalso; have h1 := HLN.out; have h2 := HL.out; omega
          · have ky1 : decide (m < e) = false := decide_eq_false cy1
            by_cases cx2 : s < m
            · have kx2 : decide (s < m) = true := decide_eq_true cx2
              by_cases cy2 : e < b
              · have ky2 : decide (e < b) = true := decide_eq_true cy2
                have g1 : (s : Int) < m := by omega
                have g2 : ¬ (m : Int) < e := by omega
                have g3 : (a : Int) < s := by omega
                have g4 : ¬ (s : Int) < mid := by have h1 := HLN.out; have h2 := HL.out; omega
                have g5 : (mid : Int) < e := by have h1 := HLN.out; have h2 := HL.out; omega
                have g6 : (e : Int) < b := by omega
                have CC := Lib.hid (And.intro cx1 (And.intro cy1 (And.intro cx2 cy2)))
                clear cx1 cy1 cx2 cy2
                go_wp2_with fail
                obtain ⟨w1, hw1⟩ : ∃ w1, wr = w1 := ⟨_, rfl⟩
                have hemp : Y1 = [] := nil_of HLN.out.2.2.1 (by have h1 := HLN.out; have h2 := HL.out; have h3 := CC.out; omega)
                have HB1 : Hid (BR g n cap w1 (L ++ X1 ++ Y1 ++ (X2 ++ (Y2 ++ R)))) := (by rw [← hw1]; have := HB0.out; rw [hemp] at this ⊢; simpa using this : BR g n cap w1 (L ++ X1 ++ Y1 ++ (X2 ++ (Y2 ++ R))))
                have HF1 : Hid (FrG g w w1) := (hw1 ▸ HF.out : FrG g w w1)
                rw [hw1]
                clear hemp hw1
                obtain ⟨w2, hw2⟩ : ∃ w2, w1 = w2 := ⟨_, rfl⟩
                have hemp : X1 = [] ∨ Y1 = [] := .inr (nil_of HLN.out.2.2.1 (by have h1 := HLN.out; have h2 := HL.out; have h3 := CC.out; omega))
                obtain ⟨Z1, hZ1⟩ : ∃ Z1, X1 ++ Y1 = Z1 := ⟨_, rfl⟩
                have HZ1 : Hid (StableOf FV.key (X1 ++ Y1) Z1) := (by rw [← hZ1]; exact stable_empty hemp HSP.out.1 HSP.out.2.2.1 : StableOf FV.key (X1 ++ Y1) Z1)
                have HB2 : Hid (BR g n cap w2 ((L ++ Z1) ++ X2 ++ Y2 ++ R)) := (by rw [← hw2, ← hZ1]; simpa using HB1.out : BR g n cap w2 ((L ++ Z1) ++ X2 ++ Y2 ++ R))
                have HF2 : Hid (FrG g w w2) := (hw2 ▸ HF1.out : FrG g w w2)
                rw [hw2]
                clear hemp hw2 hZ1
                have hlz : (L ++ Z1).length = mid := by have h3 := HB2.out.len; have h4 := HB1.out.len; simp only [List.length_append] at h3 h4 ⊢; have h1 := HLN.out; have h2 := HL.out; omega
                refine (IH.out mid e b (L ++ Z1) X2 Y2 R w2 HB2.out (by have h1 := HLN.out; have h2 := HL.out; omega) (by have h1 := HLN.out; have h2 := HL.out; omega) hlz (by have h1 := HLN.out; have h2 := HL.out; omega) (by have h1 := HLN.out; have h2 := HL.out; omega) HSP.out.2.1 HSP.out.2.2.2 (by have h1 := HLN.out; have h2 := HL.out; omega)).mono ?_
                rintro ee w3 ⟨rfl, Z2, hz2, hb3, hf3⟩
                have HFIN2 : Hid (SymPost g n cap L X Y R w (.returned (.tuple #[])) w3) := (⟨rfl, Z1 ++ Z2, HFIN.out Z1 Z2 HZ1.out hz2, by simpa using hb3, HF2.out.trans' hf3⟩ : SymPost g n cap L X Y R w (.returned (.tuple #[])) w3)
                clear hz2 hb3 hf3 hlz
                go_wp2_with fail
                go_end0
                exact HFIN2.out
              · have ky2 : decide (e < b) = false := decide_eq_false cy2
                have g1 : (s : Int) < m := by omega
                have g2 : ¬ (m : Int) < e := by omega
                have g3 : (a : Int) < s := by omega
                have g4 : ¬ (s : Int) < mid := by have h1 := HLN.out; have h2 := HL.out; omega
                have g5 : (mid : Int) < e := by have h1 := HLN.out; have h2 := HL.out; omega
                have g6 : ¬ (e : Int) < b := by omega
                have CC := Lib.hid (And.intro cx1 (And.intro cy1 (And.intro cx2 cy2)))
                clear cx1 cy1 cx2 cy2
                go_wp2_with fail
                obtain ⟨w1, hw1⟩ : ∃ w1, wr = w1 := ⟨_, rfl⟩
                have hemp : Y1 = [] := nil_of HLN.out.2.2.1 (by have h1 := HLN.out; have h2 := HL.out; have h3 := CC.out; omega)
                have HB1 : Hid (BR g n cap w1 (L ++ X1 ++ Y1 ++ (X2 ++ (Y2 ++ R)))) := (by rw [← hw1]; have := HB0.out; rw [hemp] at this ⊢; simpa using this : BR g n cap w1 (L ++ X1 ++ Y1 ++ (X2 ++ (Y2 ++ R))))
                have HF1 : Hid (FrG g w w1) := (hw1 ▸ HF.out : FrG g w w1)
                rw [hw1]
                clear hemp hw1
                obtain ⟨w2, hw2⟩ : ∃ w2, w1 = w2 := ⟨_, rfl⟩
                have hemp : X1 = [] ∨ Y1 = [] := .inr (nil_of HLN.out.2.2.1 (by have h1 := HLN.out; have h2 := HL.out; have h3 := CC.out; omega))
                obtain ⟨Z1, hZ1⟩ : ∃ Z1, X1 ++ Y1 = Z1 := ⟨_, rfl⟩
                have HZ1 : Hid (StableOf FV.key (X1 ++ Y1) Z1) := (by rw [← hZ1]; exact stable_empty hemp HSP.out.1 HSP.out.2.2.1 : StableOf FV.key (X1 ++ Y1) Z1)
                have HB2 : Hid (BR g n cap w2 ((L ++ Z1) ++ X2 ++ Y2 ++ R)) := (by rw [← hw2, ← hZ1]; simpa using HB1.out : BR g n cap w2 ((L ++ Z1) ++ X2 ++ Y2 ++ R))
                have HF2 : Hid (FrG g w w2) := (hw2 ▸ HF1.out : FrG g w w2)
                rw [hw2]
                clear hemp hw2 hZ1
                have hemp : X2 = [] ∨ Y2 = [] := .inr (nil_of HLN.out.2.2.2.1 (by have h1 := HLN.out; have h2 := HL.out; have h3 := CC.out; omega))
                have HFIN2 : Hid (SymPost g n cap L X Y R w (.returned (.tuple #[])) w2) := (⟨rfl, Z1 ++ (X2 ++ Y2), HFIN.out Z1 (X2 ++ Y2) HZ1.out (stable_empty hemp HSP.out.2.1 HSP.out.2.2.2), by simpa using HB2.out, HF2.out⟩ : SymPost g n cap L X Y R w (.returned (.tuple #[])) w2)
                clear hemp
                go_end0
                exact HFIN2.out
            · have kx2 : decide (s < m) = false := decide_eq_false cx2
              by_cases cy2 : e < b
              · have ky2 : decide (e < b) = true := decide_eq_true cy2
                exfalso; have h1 := HLN.out; have h2 := HL.out; omega
              · have ky2 : decide (e < b) = false := decide_eq_false cy2
                exfalso; have h1 := HLN.out; have h2 := HL.out; omega
        · have kx1 : decide (a < s) = false := decide_eq_false cx1
          by_cases cy1 : m < e
          · have ky1 : decide (m < e) = true := decide_eq_true cy1
            by_cases cx2 : s < m
            · have kx2 : decide (s < m) = true := decide_eq_true cx2
              by_cases cy2 : e < b
              · have ky2 : decide (e < b) = true := decide_eq_true cy2
                have g1 : (s : Int) < m := by omega
                have g2 : (m : Int) < e := by omega
                have g3 : ¬ (a : Int) < s := by omega
                have g4 : (s : Int) < mid := by have h1 := HLN.out; have h2 := HL.out; omega
                have g5 : (mid : Int) < e := by have h1 := HLN.out; have h2 := HL.out; omega
                have g6 : (e : Int) < b := by omega
                have CC := Lib.hid (And.intro cx1 (And.intro cy1 (And.intro cx2 cy2)))
                clear cx1 cy1 cx2 cy2
                go_wp2_with fail
                have hb0 : BR g n cap wr ((L ++ X1) ++ X2 ++ Y1 ++ (Y2 ++ R)) := by simpa using HB0.out
                refine (rotate_any g n cap s m e _ (L ++ X1) X2 Y1 (Y2 ++ R) wr hb0 HL.out.2.1 (by have h1 := HLN.out; have h2 := HL.out; omega) (by have h1 := HLN.out; have h2 := HL.out; omega) (by rw [List.length_append]; have h1 := HLN.out; have h2 := HL.out; omega) (by have h1 := HLN.out; have h2 := HL.out; omega) (by have h1 := HLN.out; have h2 := HL.out; omega)).mono ?_
                rintro ee w1 ⟨rfl, hb1, hf1⟩
                have HB1 : Hid (BR g n cap w1 (L ++ X1 ++ Y1 ++ (X2 ++ (Y2 ++ R)))) := (by simpa using hb1 : BR g n cap w1 (L ++ X1 ++ Y1 ++ (X2 ++ (Y2 ++ R))))
                have HF1 := Lib.hid (HF.out.trans' hf1)
                clear hb0 hb1 hf1
                go_wp2_with fail
                obtain ⟨w2, hw2⟩ : ∃ w2, w1 = w2 := ⟨_, rfl⟩
                have hemp : X1 = [] ∨ Y1 = [] := .inl (nil_of HLN.out.1 (by have h1 := HLN.out; have h2 := HL.out; have h3 := CC.out; omega))
                obtain ⟨Z1, hZ1⟩ : ∃ Z1, X1 ++ Y1 = Z1 := ⟨_, rfl⟩
                have HZ1 : Hid (StableOf FV.key (X1 ++ Y1) Z1) := (by rw [← hZ1]; exact stable_empty hemp HSP.out.1 HSP.out.2.2.1 : StableOf FV.key (X1 ++ Y1) Z1)
                have HB2 : Hid (BR g n cap w2 ((L ++ Z1) ++ X2 ++ Y2 ++ R)) := (by rw [← hw2, ← hZ1]; simpa using HB1.out : BR g n cap w2 ((L ++ Z1) ++ X2 ++ Y2 ++ R))
                have HF2 : Hid (FrG g w w2) := (hw2 ▸ HF1.out : FrG g w w2)
                rw [hw2]
                clear hemp hw2 hZ1
                have hlz : (L ++ Z1).length = mid := by have h3 := HB2.out.len; have h4 := HB1.out.len; simp only [List.length_append] at h3 h4 ⊢; have h1 := HLN.out; have h2 := HL.out; omega
                refine (IH.out mid e b (L ++ Z1) X2 Y2 R w2 HB2.out (by have h1 := HLN.out; have h2 := HL.out; omega) (by have h1 := HLN.out; have h2 := HL.out; omega) hlz (by have h1 := HLN.out; have h2 := HL.out; omega) (by have h1 := HLN.out; have h2 := HL.out; omega) HSP.out.2.1 HSP.out.2.2.2 (by have h1 := HLN.out; have h2 := HL.out; omega)).mono ?_
                rintro ee w3 ⟨rfl, Z2, hz2, hb3, hf3⟩
                have HFIN2 : Hid (SymPost g n cap L X Y R w (.returned (.tuple #[])) w3) := (⟨rfl, Z1 ++ Z2, HFIN.out Z1 Z2 HZ1.out hz2, by simpa using hb3, HF2.out.trans' hf3⟩ : SymPost g n cap L X Y R w (.returned (.tuple #[])) w3)
                clear hz2 hb3 hf3 hlz
                go_wp2_with fail
                go_end0
                exact HFIN2.out
              · have ky2 : decide (e < b) = false := decide_eq_false cy2
                have g1 : (s : Int) < m := by omega
                have g2 : (m : Int) < e := by omega
                have g3 : ¬ (a : Int) < s := by omega
                have g4 : (s : Int) < mid := by have h1 := HLN.out; have h2 := HL.out; omega
                have g5 : (mid : Int) < e := by have h1 := HLN.out; have h2 := HL.out; omega
                have g6 : ¬ (e : Int) < b := by omega
                have CC := Lib.hid (And.intro cx1 (And.intro cy1 (And.intro cx2 cy2)))
                clear cx1 cy1 cx2 cy2
                go_wp2_with fail
                have hb0 : BR g n cap wr ((L ++ X1) ++ X2 ++ Y1 ++ (Y2 ++ R)) := by simpa using HB0.out
                refine (rotate_any g n cap s m e _ (L ++ X1) X2 Y1 (Y2 ++ R) wr hb0 HL.out.2.1 (by have h1 := HLN.out; have h2 := HL.out; omega) (by have h1 := HLN.out; have h2 := HL.out; omega) (by rw [List.length_append]; have h1 := HLN.out; have h2 := HL.out; omega) (by have h1 := HLN.out; have h2 := HL.out; omega) (by have h1 := HLN.out; have h2 := HL.out; omega)).mono ?_
                rintro ee w1 ⟨rfl, hb1, hf1⟩
                have HB1 : Hid (BR g n cap w1 (L ++ X1 ++ Y1 ++ (X2 ++ (Y2 ++ R)))) := (by simpa using hb1 : BR g n cap w1 (L ++ X1 ++ Y1 ++ (X2 ++ (Y2 ++ R))))
                have HF1 := Lib.hid (HF.out.trans' hf1)
                clear hb0 hb1 hf1
                go_wp2_with fail
                obtain ⟨w2, hw2⟩ : ∃ w2, w1 = w2 := ⟨_, rfl⟩
                have hemp : X1 = [] ∨ Y1 = [] := .inl (nil_of HLN.out.1 (by have h1 := HLN.out; have h2 := HL.out; have h3 := CC.out; omega))
                obtain ⟨Z1, hZ1⟩ : ∃ Z1, X1 ++ Y1 = Z1 := ⟨_, rfl⟩
                have HZ1 : Hid (StableOf FV.key (X1 ++ Y1) Z1) := (by rw [← hZ1]; exact stable_empty hemp HSP.out.1 HSP.out.2.2.1 : StableOf FV.key (X1 ++ Y1) Z1)
                have HB2 : Hid (BR g n cap w2 ((L ++ Z1) ++ X2 ++ Y2 ++ R)) := (by rw [← hw2, ← hZ1]; simpa using HB1.out : BR g n cap w2 ((L ++ Z1) ++ X2 ++ Y2 ++ R))
                have HF2 : Hid (FrG g w w2) := (hw2 ▸ HF1.out : FrG g w w2)
                rw [hw2]
                clear hemp hw2 hZ1
                have hemp : X2 = [] ∨ Y2 = [] := .inr (nil_of HLN.out.2.2.2.1 (by have h1 := HLN.out; have h2 := HL.out; have h3 := CC.out; omega))
                have HFIN2 : Hid (SymPost g n cap L X Y R w (.returned (.tuple #[])) w2) := (⟨rfl, Z1 ++ (X2 ++ Y2), HFIN.out Z1 (X2 ++ Y2) HZ1.out (stable_empty hemp HSP.out.2.1 HSP.out.2.2.2), by simpa using HB2.out, HF2.out⟩ : SymPost g n cap L X Y R w (.returned (.tuple #[])) w2)
                clear hemp
                go_end0
                exact HFIN2.out
            · have kx2 : decide (s < m) = false := decide_eq_false cx2
              by_cases cy2 : e < b
              · have ky2 : decide (e < b) = true := decide_eq_true cy2
                exfalso; have h1 := HLN.out; have h2 := HL.out; omega
              · have ky2 : decide (e < b) = false := decide_eq_false cy2
                exfalso; have h1 := HLN.out; have h2 := HL.out; omega
          · have ky1 : decide (m < e) = false := decide_eq_false cy1
            by_cases cx2 : s < m
            · have kx2 : decide (s < m) = true := decide_eq_true cx2
              by_cases cy2 : e < b
              · have ky2 : decide (e < b) = true := decide_eq_true cy2
                exfalso; have h1 := HLN.out; have h2 := HL.out; omega
              · have ky2 : decide (e < b) = false := decide_eq_false cy2
                exfalso; have h1 := HLN.out; have h2 := HL.out; omega
            · have kx2 : decide (s < m) = false := decide_eq_false cx2
              by_cases cy2 : e < b
              · have ky2 : decide (e < b) = true := decide_eq_true cy2
                exfalso; have h1 := HLN.out; have h2 := HL.out; omega
              · have ky2 : decide (e < b) = false := decide_eq_false cy2
                exfalso; have h1 := HLN.out; have h2 := HL.out; omega
  · obtain ⟨lo, hi, hlo, hhi⟩ : ∃ lo hi : Nat, lo = a ∧ hi = m := ⟨_, _, rfl, rfl⟩
    have HLH : Hid (Lohi a m b mid lo hi) := (.inr ⟨by omega, hlo, hhi⟩ : Lohi a m b mid lo hi)
    have HLO := Lib.hid (And.intro hlo hhi)
    clear hlo hhi
    go_enter Tryd.func58, Tryd.ntmps58
    go_wp2_with fail
    go_loopw [20, 21, 23] (fun v20 v21 _ wr => ∃ s r : Nat, v20 = .int .i64 s ∧ v21 = .int .i64 r ∧ Hid (Find3 V mid m lo hi s r) ∧ Hid (BR g n cap wr V) ∧ Hid (FrG g w wr)) (fun v20 v21 _ _ => (intOf v21).toNat - (intOf v20).toNat)
    case atStart => exact ⟨lo, hi, by first | (congr 1; have := HLO.out; omega), by first | (congr 1; have := HLO.out; omega), ⟨Nat.le_refl _, by have h1 := HLO.out; have h2 := HL.out; omega, Nat.le_refl _, .inl rfl, .inl rfl⟩, HB.out, Fr.refl _ _⟩
    case round =>
      obtain ⟨s, r, rfl, rfl, HI, HBR, HF⟩ := hrel
      have q1 : (s : Int) ≤ r := by have := HI.out; unfold Find3 at this; omega
      have q0 : s ≤ mid ∧ s ≤ m ∧ a ≤ s ∧ r ≤ mid ∧ r ≤ m ∧ mid + m - s ≤ b := by have h1 := HI.out; have h2 := HLH.out; have h3 := HL.out; unfold Find3 at h1; unfold Lohi at h2; omega
      have q2 : (r : Int) ≤ mid := by omega
      have q3 : (a : Int) ≤ s := by omega
      have Q0 := Lib.hid q0; clear q0
      by_cases hij : (s : Int) < r
      · obtain ⟨p, hp⟩ : ∃ p, (s + r) / 2 = p := ⟨_, rfl⟩
        obtain ⟨o, ho⟩ : ∃ o, mid + m - 1 - p = o := ⟨_, rfl⟩
        have p1 : ((s : Int) + (r : Int)) / 2 = (p : Int) := by omega
        have p2 : (p : Int) < r := by omega
        have p3 : (s : Int) ≤ p := by omega
        have p4 : (p : Int) < n := by omega
        have p6 : (mid : Int) + (m : Int) - 1 - (p : Int) = (o : Int) := by have := Q0.out; omega
        have p5 : (o : Int) < n := by have := Q0.out; omega
        have p7 : (0 : Int) ≤ (o : Int) := by omega
        have p8 : IntKind.i64.wrap (o : Int) = (o : Int) := by have := HL.out; rw [IntKind.wrap_i64]; omega
        have P0 := Lib.hid (And.intro hp ho); clear hp ho
        have HS0 := Lib.hid (range2 (p := o) (q := p) HBR.out (by omega) (by omega))
        by_cases hlt : lt (V.getD o default) (V.getD p default) = true
        · have HC : Hid (cmpI (V.getD o default).f.name (V.getD p default).f.name = -1) := cmp_neg hlt
          have HF1 : Hid (Find3 V mid m lo hi s p) := (by
            obtain ⟨h1, h2, h3, h4, h5⟩ := HI.out
            have h6 := P0.out
            exact ⟨h1, by omega, by omega, h4, .inr (by rw [h6.2]; exact hlt)⟩ : Find3 V mid m lo hi s p)
          clear hlt
          go_wp2_with fail
          refine wp_region_held_drew (S := fun w' => w'.rangeAt g ((o) * 4) (V.getD (o) default).cells ∧ w'.rangeAt g ((p) * 4) (V.getD (p) default).cells) (by kernel_rfl) (by exact HS0.out _ (Fr.refl _ _).drew) (fun hHeld => ?_)
          refine wpAnyH_take (i := 0) (v := ?vva1) (idx_of_drop rfl) (by kernel_rfl) (by kernel_rfl) (by kernel_rfl) (fun _ _ _ h => h) (Or.inl ⟨by rfl, ?yva1⟩) (by assumption) ?rva1
          case yva1 => (intro w hSw; go_simp <;> with_reducible rfl)
          (try simp only [Act.put, List.setIfInBounds_toArray, List.set_cons_zero, List.set_cons_succ])
          refine wpAnyH_take (i := 1) (v := ?vva2) (idx_of_drop rfl) (by kernel_rfl) (by kernel_rfl) (by kernel_rfl) (fun _ _ _ h => h) (Or.inl ⟨by rfl, ?yva2⟩) (by assumption) ?rva2
          case yva2 => (intro w hSw; go_simp <;> with_reducible rfl)
          (try simp only [Act.put, List.setIfInBounds_toArray, List.set_cons_zero, List.set_cons_succ])
          refine wpAnyH_take (i := 2) (v := ?vva3) (idx_of_drop rfl) (by kernel_rfl) (by kernel_rfl) (by kernel_rfl) (fun _ _ _ h => h) (Or.inl ⟨by rfl, ?yva3⟩) (by assumption) ?rva3
          case yva3 => (intro w hSw; go_simp <;> with_reducible rfl)
          (try simp only [Act.put, List.setIfInBounds_toArray, List.set_cons_zero, List.set_cons_succ])
          refine wpAnyH_take (i := 3) (v := ?vva4) (idx_of_drop rfl) (by kernel_rfl) (by kernel_rfl) (by kernel_rfl) (fun _ _ _ h => h) (Or.inl ⟨by rfl, ?yva4⟩) (by assumption) ?rva4
          case yva4 => (intro w hSw; go_simp <;> with_reducible rfl)
          (try simp only [Act.put, List.setIfInBounds_toArray, List.set_cons_zero, List.set_cons_succ])
          refine wpAnyH_take (i := 4) (v := ?vva5) (idx_of_drop rfl) (by kernel_rfl) (by kernel_rfl) (by kernel_rfl) (fun _ _ _ h => h) (Or.inl ⟨by rfl, ?yva5⟩) (by assumption) ?rva5
          case yva5 => (intro w hSw; go_simp <;> with_reducible rfl)
          (try simp only [Act.put, List.setIfInBounds_toArray, List.set_cons_zero, List.set_cons_succ])
          refine wpAnyH_take (i := 5) (v := ?vva6) (idx_of_drop rfl) (by kernel_rfl) (by kernel_rfl) (by kernel_rfl) (fun _ _ _ h => h) (Or.inl ⟨by rfl, ?yva6⟩) (by assumption) ?rva6
          case yva6 => (intro w hSw; go_simp <;> with_reducible rfl)
          (try simp only [Act.put, List.setIfInBounds_toArray, List.set_cons_zero, List.set_cons_succ])
          refine wpAnyH_take (i := 6) (v := .agg (V.getD (o) default).cells.toArray) (idx_of_drop rfl) (by kernel_rfl) (by kernel_rfl) (by kernel_rfl) (fun _ _ _ h => h) (yieldsIf_load_mid (by rfl) 33 (.tmp 163) rfl g ((o) * 4) (by rfl) (V.getD (o) default).cells _ (fun w hw => hw.1) Tryd.underlying33 rfl info33s) (by assumption) ?rva7
          (try simp only [Act.put, List.setIfInBounds_toArray, List.set_cons_zero, List.set_cons_succ])
          refine wpAnyH_take (i := 7) (v := ?vva8) (idx_of_drop rfl) (by kernel_rfl) (by kernel_rfl) (by kernel_rfl) (fun _ _ _ h => h) (Or.inl ⟨by rfl, ?yva8⟩) (by assumption) ?rva8
          case yva8 => (intro w hSw; go_simp <;> with_reducible rfl)
          (try simp only [Act.put, List.setIfInBounds_toArray, List.set_cons_zero, List.set_cons_succ])
          refine wpAnyH_take (i := 8) (v := ?vva9) (idx_of_drop rfl) (by kernel_rfl) (by kernel_rfl) (by kernel_rfl) (fun _ _ _ h => h) (Or.inl ⟨by rfl, ?yva9⟩) (by assumption) ?rva9
          case yva9 => (intro w hSw; go_simp <;> with_reducible rfl)
          (try simp only [Act.put, List.setIfInBounds_toArray, List.set_cons_zero, List.set_cons_succ])
          refine wpAnyH_take (i := 9) (v := ?vva10) (idx_of_drop rfl) (by kernel_rfl) (by kernel_rfl) (by kernel_rfl) (fun _ _ _ h => h) (Or.inl ⟨by rfl, ?yva10⟩) (by assumption) ?rva10
          case yva10 => (intro w hSw; go_simp <;> with_reducible rfl)
          (try simp only [Act.put, List.setIfInBounds_toArray, List.set_cons_zero, List.set_cons_succ])
          refine wpAnyH_take (i := 10) (v := .agg (V.getD (p) default).cells.toArray) (idx_of_drop rfl) (by kernel_rfl) (by kernel_rfl) (by kernel_rfl) (fun _ _ _ h => h) (yieldsIf_load_mid (by rfl) 33 (.tmp 167) rfl g ((p) * 4) (by rfl) (V.getD (p) default).cells _ (fun w hw => hw.2) Tryd.underlying33 rfl info33s) (by assumption) ?rva11
          (try simp only [Act.put, List.setIfInBounds_toArray, List.set_cons_zero, List.set_cons_succ])
          refine wpAnyH_ready (rs := [11]) (by kernel_rfl) (by simp) ?_
          refine AllReadyH.cons (idx_of_drop rfl) (fun K hK => ?sva12) ?mva12
          case sva12 =>
            go_simp
            refine (cmp_told (V.getD (o) default) (V.getD (p) default) _).mono ?_
            rintro e wc ⟨rfl, hsc⟩
            have hsc2 := (Fr.refl (fun _ => False) wr).drew.trans' hsc
            rw [HC.out]
            refine hK.out _ _ (by exact HS0.out _ hsc2) (fun hHeld => ?_)
            clear hK K
            (try simp only [Act.put, List.setIfInBounds_toArray, List.set_cons_zero, List.set_cons_succ])
            refine wpAnyH_take (i := 12) (v := ?vva13) (idx_of_drop rfl) (by kernel_rfl) (by kernel_rfl) (by kernel_rfl) (fun _ _ _ h => h) (Or.inl ⟨by rfl, ?yva13⟩) (by assumption) ?rva13
            case yva13 => (intro w hSw; go_simp <;> with_reducible rfl)
            (try simp only [Act.put, List.setIfInBounds_toArray, List.set_cons_zero, List.set_cons_succ])
            refine wpAnyH_take (i := 13) (v := ?vva14) (idx_of_drop rfl) (by kernel_rfl) (by kernel_rfl) (by kernel_rfl) (fun _ _ _ h => h) (Or.inl ⟨by rfl, ?yva14⟩) (by assumption) ?rva14
            case yva14 => (intro w hSw; go_simp <;> with_reducible rfl)
            (try simp only [Act.put, List.setIfInBounds_toArray, List.set_cons_zero, List.set_cons_succ])
            refine wpAnyH_done (by kernel_rfl) ?_ _
            rename_i hH; clear hH
            go_wp2_with fail
            go_roundw
            case rel => exact ⟨s, p, rfl, rfl, HF1.out, HBR.out.same hsc2, HF.out.trans hsc2 (fun _ _ e => e) (fun _ _ e => e.elim)⟩
            case measure => simp [intOf]; omega
          exact AllReadyH.nil
        · have hlt2 : lt (V.getD o default) (V.getD p default) = false := by simpa using hlt
          obtain ⟨q, hq⟩ : ∃ q, cmpI (V.getD o default).f.name (V.getD p default).f.name = q := ⟨_, rfl⟩
          have hq0 : 0 ≤ q := by rw [← hq]; exact cmp_pos hlt2
          have hq1 : ¬ q < 0 := by omega
          have hq2 : decide (q < 0) = false := decide_eq_false hq1
          have hq3 : (!decide (q < 0)) = true := by rw [hq2]; rfl
          have HC := Lib.hid hq
          have HF1 : Hid (Find3 V mid m lo hi (p + 1) r) := (by
            obtain ⟨h1, h2, h3, h4, h5⟩ := HI.out
            have h6 := P0.out
            have h7 := Q0.out
            exact ⟨by omega, by omega, h3, .inr (by rw [Nat.add_sub_cancel, show mid + m - (p + 1) = o by omega]; exact hlt2), h5⟩ : Find3 V mid m lo hi (p + 1) r)
          clear hlt hlt2 hq hq0
          go_wp2_with fail
          refine wp_region_held_drew (S := fun w' => w'.rangeAt g ((o) * 4) (V.getD (o) default).cells ∧ w'.rangeAt g ((p) * 4) (V.getD (p) default).cells) (by kernel_rfl) (by exact HS0.out _ (Fr.refl _ _).drew) (fun hHeld => ?_)
          refine wpAnyH_take (i := 0) (v := ?vvb1) (idx_of_drop rfl) (by kernel_rfl) (by kernel_rfl) (by kernel_rfl) (fun _ _ _ h => h) (Or.inl ⟨by rfl, ?yvb1⟩) (by assumption) ?rvb1
          case yvb1 => (intro w hSw; go_simp <;> with_reducible rfl)
          (try simp only [Act.put, List.setIfInBounds_toArray, List.set_cons_zero, List.set_cons_succ])
          refine wpAnyH_take (i := 1) (v := ?vvb2) (idx_of_drop rfl) (by kernel_rfl) (by kernel_rfl) (by kernel_rfl) (fun _ _ _ h => h) (Or.inl ⟨by rfl, ?yvb2⟩) (by assumption) ?rvb2
          case yvb2 => (intro w hSw; go_simp <;> with_reducible rfl)
          (try simp only [Act.put, List.setIfInBounds_toArray, List.set_cons_zero, List.set_cons_succ])
          refine wpAnyH_take (i := 2) (v := ?vvb3) (idx_of_drop rfl) (by kernel_rfl) (by kernel_rfl) (by kernel_rfl) (fun _ _ _ h => h) (Or.inl ⟨by rfl, ?yvb3⟩) (by assumption) ?rvb3
          case yvb3 => (intro w hSw; go_simp <;> with_reducible rfl)
          (try simp only [Act.put, List.setIfInBounds_toArray, List.set_cons_zero, List.set_cons_succ])
          refine wpAnyH_take (i := 3) (v := ?vvb4) (idx_of_drop rfl) (by kernel_rfl) (by kernel_rfl) (by kernel_rfl) (fun _ _ _ h => h) (Or.inl ⟨by rfl, ?yvb4⟩) (by assumption) ?rvb4
          case yvb4 => (intro w hSw; go_simp <;> with_reducible rfl)
          (try simp only [Act.put, List.setIfInBounds_toArray, List.set_cons_zero, List.set_cons_succ])
          refine wpAnyH_take (i := 4) (v := ?vvb5) (idx_of_drop rfl) (by kernel_rfl) (by kernel_rfl) (by kernel_rfl) (fun _ _ _ h => h) (Or.inl ⟨by rfl, ?yvb5⟩) (by assumption) ?rvb5
          case yvb5 => (intro w hSw; go_simp <;> with_reducible rfl)
          (try simp only [Act.put, List.setIfInBounds_toArray, List.set_cons_zero, List.set_cons_succ])
          refine wpAnyH_take (i := 5) (v := ?vvb6) (idx_of_drop rfl) (by kernel_rfl) (by kernel_rfl) (by kernel_rfl) (fun _ _ _ h => h) (Or.inl ⟨by rfl, ?yvb6⟩) (by assumption) ?rvb6
          case yvb6 => (intro w hSw; go_simp <;> with_reducible rfl)
          (try simp only [Act.put, List.setIfInBounds_toArray, List.set_cons_zero, List.set_cons_succ])
          refine wpAnyH_take (i := 6) (v := .agg (V.getD (o) default).cells.toArray) (idx_of_drop rfl) (by kernel_rfl) (by kernel_rfl) (by kernel_rfl) (fun _ _ _ h => h) (yieldsIf_load_mid (by rfl) 33 (.tmp 163) rfl g ((o) * 4) (by rfl) (V.getD (o) default).cells _ (fun w hw => hw.1) Tryd.underlying33 rfl info33s) (by assumption) ?rvb7
          (try simp only [Act.put, List.setIfInBounds_toArray, List.set_cons_zero, List.set_cons_succ])
          refine wpAnyH_take (i := 7) (v := ?vvb8) (idx_of_drop rfl) (by kernel_rfl) (by kernel_rfl) (by kernel_rfl) (fun _ _ _ h => h) (Or.inl ⟨by rfl, ?yvb8⟩) (by assumption) ?rvb8
          case yvb8 => (intro w hSw; go_simp <;> with_reducible rfl)
          (try simp only [Act.put, List.setIfInBounds_toArray, List.set_cons_zero, List.set_cons_succ])
          refine wpAnyH_take (i := 8) (v := ?vvb9) (idx_of_drop rfl) (by kernel_rfl) (by kernel_rfl) (by kernel_rfl) (fun _ _ _ h => h) (Or.inl ⟨by rfl, ?yvb9⟩) (by assumption) ?rvb9
          case yvb9 => (intro w hSw; go_simp <;> with_reducible rfl)
          (try simp only [Act.put, List.setIfInBounds_toArray, List.set_cons_zero, List.set_cons_succ])
          refine wpAnyH_take (i := 9) (v := ?vvb10) (idx_of_drop rfl) (by kernel_rfl) (by kernel_rfl) (by kernel_rfl) (fun _ _ _ h => h) (Or.inl ⟨by rfl, ?yvb10⟩) (by assumption) ?rvb10
          case yvb10 => (intro w hSw; go_simp <;> with_reducible rfl)
          (try simp only [Act.put, List.setIfInBounds_toArray, List.set_cons_zero, List.set_cons_succ])
          refine wpAnyH_take (i := 10) (v := .agg (V.getD (p) default).cells.toArray) (idx_of_drop rfl) (by kernel_rfl) (by kernel_rfl) (by kernel_rfl) (fun _ _ _ h => h) (yieldsIf_load_mid (by rfl) 33 (.tmp 167) rfl g ((p) * 4) (by rfl) (V.getD (p) default).cells _ (fun w hw => hw.2) Tryd.underlying33 rfl info33s) (by assumption) ?rvb11
          (try simp only [Act.put, List.setIfInBounds_toArray, List.set_cons_zero, List.set_cons_succ])
          refine wpAnyH_ready (rs := [11]) (by kernel_rfl) (by simp) ?_
          refine AllReadyH.cons (idx_of_drop rfl) (fun K hK => ?svb12) ?mvb12
          case svb12 =>
            go_simp
            refine (cmp_told (V.getD (o) default) (V.getD (p) default) _).mono ?_
            rintro e wc ⟨rfl, hsc⟩
            have hsc2 := (Fr.refl (fun _ => False) wr).drew.trans' hsc
            rw [HC.out]
            refine hK.out _ _ (by exact HS0.out _ hsc2) (fun hHeld => ?_)
            clear hK K
            (try simp only [Act.put, List.setIfInBounds_toArray, List.set_cons_zero, List.set_cons_succ])
            refine wpAnyH_take (i := 12) (v := ?vvb13) (idx_of_drop rfl) (by kernel_rfl) (by kernel_rfl) (by kernel_rfl) (fun _ _ _ h => h) (Or.inl ⟨by rfl, ?yvb13⟩) (by assumption) ?rvb13
            case yvb13 => (intro w hSw; go_simp <;> with_reducible rfl)
            (try simp only [Act.put, List.setIfInBounds_toArray, List.set_cons_zero, List.set_cons_succ])
            refine wpAnyH_take (i := 13) (v := ?vvb14) (idx_of_drop rfl) (by kernel_rfl) (by kernel_rfl) (by kernel_rfl) (fun _ _ _ h => h) (Or.inl ⟨by rfl, ?yvb14⟩) (by assumption) ?rvb14
            case yvb14 => (intro w hSw; go_simp <;> with_reducible rfl)
            (try simp only [Act.put, List.setIfInBounds_toArray, List.set_cons_zero, List.set_cons_succ])
            refine wpAnyH_done (by kernel_rfl) ?_ _
            rename_i hH; clear hH
            go_wp2_with fail
            go_roundw
            case rel => exact ⟨p + 1, r, by go_num, rfl, HF1.out, HBR.out.same hsc2, HF.out.trans hsc2 (fun _ _ e => e) (fun _ _ e => e.elim)⟩
            case measure => simp [intOf]; omega
          exact AllReadyH.nil
      · have HIJ : Hid (s = r) := (by omega : s = r)
        obtain ⟨e, he⟩ : ∃ e, mid + m - s = e := ⟨_, rfl⟩
        have h0 := HL.out
        have hend := find3_end (L := L) (X := X) (Y := Y) (R := R) (a := a) (m := m) (b := b) (mid := mid) (lo := lo) (hi := hi) (s := s) (e := e) h0.2.2.2.2.1 h0.2.2.2.2.2.1 h0.2.2.2.2.2.2.1 h0.2.2.2.2.2.2.2 h0.2.2.1 h0.2.2.2.1 HSX.out HSY.out HLH.out (by
          have h1 := HI.out
          rw [← HIJ.out] at h1
          rw [HV.out]
          exact h1) he
        have e1 : (mid : Int) + (m : Int) - (s : Int) = (e : Int) := by have := Q0.out; omega
        obtain ⟨r1, r2, r3, r4, r5, r6, hlss, hleq⟩ := hend
        obtain ⟨X1, hX1⟩ : ∃ l, X.take (s - a) = l := ⟨_, rfl⟩
        obtain ⟨X2, hX2⟩ : ∃ l, X.drop (s - a) = l := ⟨_, rfl⟩
        obtain ⟨Y1, hY1⟩ : ∃ l, Y.take (e - m) = l := ⟨_, rfl⟩
        obtain ⟨Y2, hY2⟩ : ∃ l, Y.drop (e - m) = l := ⟨_, rfl⟩
        have hXe : X = X1 ++ X2 := by rw [← hX1, ← hX2, List.take_append_drop]
        have hYe : Y = Y1 ++ Y2 := by rw [← hY1, ← hY2, List.take_append_drop]
        have lX1 : X1.length = s - a := by rw [← hX1, List.length_take]; omega
        have lX2 : X2.length = m - s := by rw [← hX2, List.length_drop]; omega
        have lY1 : Y1.length = e - m := by rw [← hY1, List.length_take]; omega
        have lY2 : Y2.length = b - e := by rw [← hY2, List.length_drop]; omega
        have lY1' : Y1.length = mid - s := by omega
        have lX2' : X2.length = e - mid := by omega
        rw [hX2, hY1] at hlss
        rw [hX1, hY2] at hleq
        have hsx1 : Srt FV.key (X1 ++ X2) := hXe ▸ HSX.out
        have hsy1 : Srt FV.key (Y1 ++ Y2) := hYe ▸ HSY.out
        have HFIN : Hid (∀ Z1 Z2, StableOf FV.key (X1 ++ Y1) Z1 → StableOf FV.key (X2 ++ Y2) Z2 → StableOf FV.key (X ++ Y) (Z1 ++ Z2)) := (fun Z1 Z2 z1 z2 => by rw [hXe, hYe]; exact stable_parts FV.key hsx1 hsy1 hlss hleq z1 z2 : ∀ Z1 Z2, StableOf FV.key (X1 ++ Y1) Z1 → StableOf FV.key (X2 ++ Y2) Z2 → StableOf FV.key (X ++ Y) (Z1 ++ Z2))
        have HSP := Lib.hid (And.intro (srt_left FV.key hsx1) (And.intro (srt_right FV.key hsx1) (And.intro (srt_left FV.key hsy1) (srt_right FV.key hsy1))))
        have HLN := Lib.hid (And.intro lX1 (And.intro lX2 (And.intro lY1 (And.intro lY2 (And.intro lY1' (And.intro lX2' (And.intro r1 (And.intro r2 (And.intro r3 (And.intro r4 (And.intro r5 (And.intro r6 he))))))))))))
        have hbr0 : BR g n cap wr (L ++ X1 ++ X2 ++ Y1 ++ Y2 ++ R) := by
          have := HBR.out
          rw [← HV.out, hXe, hYe] at this
          simpa using this
        have HB0 := Lib.hid hbr0
        have u1 : (m : Int) ≤ e := by omega
        have u2 : (e : Int) ≤ b := by omega
        have u3 : (s : Int) ≤ m := by omega
        have u4 : (mid : Int) ≤ e := by omega
        have u5 : (s : Int) ≤ mid := by omega
        clear hXe hYe lX1 lX2 lY1 lY2 lY1' lX2' hlss hleq hsx1 hsy1 hX1 hX2 hY1 hY2 he h0 r1 r2 r3 r4 r5 r6 hbr0 q1
        by_cases cx1 : a < s
        · have kx1 : decide (a < s) = true := decide_eq_true cx1
          by_cases cy1 : m < e
          · have ky1 : decide (m < e) = true := decide_eq_true cy1
            by_cases cx2 : s < m
            · have kx2 : decide (s < m) = true := decide_eq_true cx2
              by_cases cy2 : e < b
              · have ky2 : decide (e < b) = true := decide_eq_true cy2
                have g1 : (s : Int) < m := by omega
                have g2 : (m : Int) < e := by omega
                have g3 : (a : Int) < s := by omega
                have g4 : (s : Int) < mid := by have h1 := HLN.out; have h2 := HL.out; omega
                have g5 : (mid : Int) < e := by have h1 := HLN.out; have h2 := HL.out; omega
                have g6 : (e : Int) < b := by omega
                have CC := Lib.hid (And.intro cx1 (And.intro cy1 (And.intro cx2 cy2)))
                clear cx1 cy1 cx2 cy2
                go_wp2_with fail
                have hb0 : BR g n cap wr ((L ++ X1) ++ X2 ++ Y1 ++ (Y2 ++ R)) := by simpa using HB0.out
                refine (rotate_any g n cap s m e _ (L ++ X1) X2 Y1 (Y2 ++ R) wr hb0 HL.out.2.1 (by have h1 := HLN.out; have h2 := HL.out; omega) (by have h1 := HLN.out; have h2 := HL.out; omega) (by rw [List.length_append]; have h1 := HLN.out; have h2 := HL.out; omega) (by have h1 := HLN.out; have h2 := HL.out; omega) (by have h1 := HLN.out; have h2 := HL.out; omega)).mono ?_
                rintro ee w1 ⟨rfl, hb1, hf1⟩
                have HB1 : Hid (BR g n cap w1 (L ++ X1 ++ Y1 ++ (X2 ++ (Y2 ++ R)))) := (by simpa using hb1 : BR g n cap w1 (L ++ X1 ++ Y1 ++ (X2 ++ (Y2 ++ R))))
                have HF1 := Lib.hid (HF.out.trans' hf1)
                clear hb0 hb1 hf1
                go_wp2_with fail
                refine (IH.out a s mid L X1 Y1 (X2 ++ (Y2 ++ R)) w1 HB1.out (by have h1 := HLN.out; have h2 := HL.out; omega) (by have h1 := HLN.out; have h2 := HL.out; omega) HL.out.2.2.2.2.1 (by have h1 := HLN.out; have h2 := HL.out; omega) (by have h1 := HLN.out; have h2 := HL.out; omega) HSP.out.1 HSP.out.2.2.1 (by have h1 := HLN.out; have h2 := HL.out; omega)).mono ?_
                rintro ee w2 ⟨rfl, Z1, hz1, hb2, hf2⟩
                have HZ1 := Lib.hid hz1
                have HB2 : Hid (BR g n cap w2 ((L ++ Z1) ++ X2 ++ Y2 ++ R)) := (by simpa using hb2 : BR g n cap w2 ((L ++ Z1) ++ X2 ++ Y2 ++ R))
                have HF2 := Lib.hid (HF1.out.trans' hf2)
                clear hz1 hb2 hf2
                go_wp2_with fail
                have hlz : (L ++ Z1).length = mid := by have h3 := HB2.out.len; have h4 := HB1.out.len; simp only [List.length_append] at h3 h4 ⊢; have h1 := HLN.out; have h2 := HL.out; omega
                refine (IH.out mid e b (L ++ Z1) X2 Y2 R w2 HB2.out (by have h1 := HLN.out; have h2 := HL.out; omega) (by have h1 := HLN.out; have h2 := HL.out; omega) hlz (by have h1 := HLN.out; have h2 := HL.out; omega) (by have h1 := HLN.out; have h2 := HL.out; omega) HSP.out.2.1 HSP.out.2.2.2 (by have h1 := HLN.out; have h2 := HL.out; omega)).mono ?_
                rintro ee w3 ⟨rfl, Z2, hz2, hb3, hf3⟩
                have HFIN2 : Hid (SymPost g n cap L X Y R w (.returned (.tuple #[])) w3) := (⟨rfl, Z1 ++ Z2, HFIN.out Z1 Z2 HZ1.out hz2, by simpa using hb3, HF2.out.trans' hf3⟩ : SymPost g n cap L X Y R w (.returned (.tuple #[])) w3)
                clear hz2 hb3 hf3 hlz
                go_wp2_with fail
                go_end0
                exact HFIN2.out
              · have ky2 : decide (e < b) = false := decide_eq_false cy2
                have g1 : (s : Int) < m := by omega
                have g2 : (m : Int) < e := by omega
                have g3 : (a : Int) < s := by omega
                have g4 : (s : Int) < mid := by have h1 := HLN.out; have h2 := HL.out; omega
                have g5 : (mid : Int) < e := by have h1 := HLN.out; have h2 := HL.out; omega
                have g6 : ¬ (e : Int) < b := by omega
                have CC := Lib.hid (And.intro cx1 (And.intro cy1 (And.intro cx2 cy2)))
                clear cx1 cy1 cx2 cy2
                go_wp2_with fail
                have hb0 : BR g n cap wr ((L ++ X1) ++ X2 ++ Y1 ++ (Y2 ++ R)) := by simpa using HB0.out
                refine (rotate_any g n cap s m e _ (L ++ X1) X2 Y1 (Y2 ++ R) wr hb0 HL.out.2.1 (by have h1 := HLN.out; have h2 := HL.out; omega) (by have h1 := HLN.out; have h2 := HL.out; omega) (by rw [List.length_append]; have h1 := HLN.out; have h2 := HL.out; omega) (by have h1 := HLN.out; have h2 := HL.out; omega) (by have h1 := HLN.out; have h2 := HL.out; omega)).mono ?_
                rintro ee w1 ⟨rfl, hb1, hf1⟩
                have HB1 : Hid (BR g n cap w1 (L ++ X1 ++ Y1 ++ (X2 ++ (Y2 ++ R)))) := (by simpa using hb1 : BR g n cap w1 (L ++ X1 ++ Y1 ++ (X2 ++ (Y2 ++ R))))
                have HF1 := Lib.hid (HF.out.trans' hf1)
                clear hb0 hb1 hf1
                go_wp2_with fail
                refine (IH.out a s mid L X1 Y1 (X2 ++ (Y2 ++ R)) w1 HB1.out (by have h1 := HLN.out; have h2 := HL.out; omega) (by have h1 := HLN.out; have h2 := HL.out; omega) HL.out.2.2.2.2.1 (by have h1 := HLN.out; have h2 := HL.out; omega) (by have h1 := HLN.out; have h2 := HL.out; omega) HSP.out.1 HSP.out.2.2.1 (by have h1 := HLN.out; have h2 := HL.out; omega)).mono ?_
                rintro ee w2 ⟨rfl, Z1, hz1, hb2, hf2⟩
                have HZ1 := Lib.hid hz1
                have HB2 : Hid (BR g n cap w2 ((L ++ Z1) ++ X2 ++ Y2 ++ R)) := (by simpa using hb2 : BR g n cap w2 ((L ++ Z1) ++ X2 ++ Y2 ++ R))
                have HF2 := Lib.hid (HF1.out.trans' hf2)
                clear hz1 hb2 hf2
                go_wp2_with fail
                have hemp : X2 = [] ∨ Y2 = [] := .inr (nil_of HLN.out.2.2.2.1 (by have h1 := HLN.out; have h2 := HL.out; have h3 := CC.out; omega))
                have HFIN2 : Hid (SymPost g n cap L X Y R w (.returned (.tuple #[])) w2) := (⟨rfl, Z1 ++ (X2 ++ Y2), HFIN.out Z1 (X2 ++ Y2) HZ1.out (stable_empty hemp HSP.out.2.1 HSP.out.2.2.2), by simpa using HB2.out, HF2.out⟩ : SymPost g n cap L X Y R w (.returned (.tuple #[])) w2)
                clear hemp
                go_end0
                exact HFIN2.out
            · have kx2 : decide (s < m) = false := decide_eq_false cx2
              by_cases cy2 : e < b
              · have ky2 : decide (e < b) = true := decide_eq_true cy2
                have g1 : ¬ (s : Int) < m := by omega
                have g2 : (m : Int) < e := by omega
                have g3 : (a : Int) < s := by omega
                have g4 : (s : Int) < mid := by have h1 := HLN.out; have h2 := HL.out; omega
                have g5 : ¬ (mid : Int) < e := by have h1 := HLN.out; have h2 := HL.out; omega
                have g6 : (e : Int) < b := by omega
                have CC := Lib.hid (And.intro cx1 (And.intro cy1 (And.intro cx2 cy2)))
                clear cx1 cy1 cx2 cy2
                go_wp2_with fail
                obtain ⟨w1, hw1⟩ : ∃ w1, wr = w1 := ⟨_, rfl⟩
                have hemp : X2 = [] := nil_of HLN.out.2.1 (by have h1 := HLN.out; have h2 := HL.out; have h3 := CC.out; omega)
                have HB1 : Hid (BR g n cap w1 (L ++ X1 ++ Y1 ++ (X2 ++ (Y2 ++ R)))) := (by rw [← hw1]; have := HB0.out; rw [hemp] at this ⊢; simpa using this : BR g n cap w1 (L ++ X1 ++ Y1 ++ (X2 ++ (Y2 ++ R))))
                have HF1 : Hid (FrG g w w1) := (hw1 ▸ HF.out : FrG g w w1)
                rw [hw1]
                clear hemp hw1
                refine (IH.out a s mid L X1 Y1 (X2 ++ (Y2 ++ R)) w1 HB1.out (by have h1 := HLN.out; have h2 := HL.out; omega) (by have h1 := HLN.out; have h2 := HL.out; omega) HL.out.2.2.2.2.1 (by have h1 := HLN.out; have h2 := HL.out; omega) (by have h1 := HLN.out; have h2 := HL.out; omega) HSP.out.1 HSP.out.2.2.1 (by have h1 := HLN.out; have h2 := HL.out; omega)).mono ?_
                rintro ee w2 ⟨rfl, Z1, hz1, hb2, hf2⟩
                have HZ1 := Lib.hid hz1
                have HB2 : Hid (BR g n cap w2 ((L ++ Z1) ++ X2 ++ Y2 ++ R)) := (by simpa using hb2 : BR g n cap w2 ((L ++ Z1) ++ X2 ++ Y2 ++ R))
                have HF2 := Lib.hid (HF1.out.trans' hf2)
                clear hz1 hb2 hf2
                go_wp2_with fail
                have hemp : X2 = [] ∨ Y2 = [] := .inl (nil_of HLN.out.2.1 (by have h1 := HLN.out; have h2 := HL.out; have h3 := CC.out; omega))
                have HFIN2 : Hid (SymPost g n cap L X Y R w (.returned (.tuple #[])) w2) := (⟨rfl, Z1 ++ (X2 ++ Y2), HFIN.out Z1 (X2 ++ Y2) HZ1.out (stable_empty hemp HSP.out.2.1 HSP.out.2.2.2), by simpa using HB2.out, HF2.out⟩ : SymPost g n cap L X Y R w (.returned (.tuple #[])) w2)
                clear hemp
                go_end0
                exact HFIN2.out
              · have ky2 : decide (e < b) = false := decide_eq_false cy2
                exfalso; have h1 := HLN.out; have h2 := HL.out; omega
          · have ky1 : decide (m < e) = false := decide_eq_false cy1
            by_cases cx2 : s < m
            · have kx2 : decide (s < m) = true := decide_eq_true cx2
              by_cases cy2 : e < b
              · have ky2 : decide (e < b) = true := decide_eq_true cy2
                have g1 : (s : Int) < m := by omega
                have g2 : ¬ (m : Int) < e := by omega
                have g3 : (a : Int) < s := by omega
                have g4 : ¬ (s : Int) < mid := by have h1 := HLN.out; have h2 := HL.out; omega
                have g5 : (mid : Int) < e := by have h1 := HLN.out; have h2 := HL.out; omega
                have g6 : (e : Int) < b := by omega
                have CC := Lib.hid (And.intro cx1 (And.intro cy1 (And.intro cx2 cy2)))
                clear cx1 cy1 cx2 cy2
                go_wp2_with fail
                obtain ⟨w1, hw1⟩ : ∃ w1, wr = w1 := ⟨_, rfl⟩
                have hemp : Y1 = [] := nil_of HLN.out.2.2.1 (by have h1 := HLN.out; have h2 := HL.out; have h3 := CC.out; omega)
                have HB1 : Hid (BR g n cap w1 (L ++ X1 ++ Y1 ++ (X2 ++ (Y2 ++ R)))) := (by rw [← hw1]; have := HB0.out; rw [hemp] at this ⊢; simpa using this : BR g n cap w1 (L ++ X1 ++ Y1 ++ (X2 ++ (Y2 ++ R))))
                have HF1 : Hid (FrG g w w1) := (hw1 ▸ HF.out : FrG g w w1)
                rw [hw1]
                clear hemp hw1
                obtain ⟨w2, hw2⟩ : ∃ w2, w1 = w2 := ⟨_, rfl⟩
                have hemp : X1 = [] ∨ Y1 = [] := .inr (nil_of HLN.out.2.2.1 (by have h1 := HLN.out; have h2 := HL.out; have h3 := CC.out; omega))
                obtain ⟨Z1, hZ1⟩ : ∃ Z1, X1 ++ Y1 = Z1 := ⟨_, rfl⟩
                have HZ1 : Hid (StableOf FV.key (X1 ++ Y1) Z1) := (by rw [← hZ1]; exact stable_empty hemp HSP.out.1 HSP.out.2.2.1 : StableOf FV.key (X1 ++ Y1) Z1)
                have HB2 : Hid (BR g n cap w2 ((L ++ Z1) ++ X2 ++ Y2 ++ R)) := (by rw [← hw2, ← hZ1]; simpa using HB1.out : BR g n cap w2 ((L ++ Z1) ++ X2 ++ Y2 ++ R))
                have HF2 : Hid (FrG g w w2) := (hw2 ▸ HF1.out : FrG g w w2)
                rw [hw2]
                clear hemp hw2 hZ1
                have hlz : (L ++ Z1).length = mid := by have h3 := HB2.out.len; have h4 := HB1.out.len; simp only [List.length_append] at h3 h4 ⊢; have h1 := HLN.out; have h2 := HL.out; omega
                refine (IH.out mid e b (L ++ Z1) X2 Y2 R w2 HB2.out (by have h1 := HLN.out; have h2 := HL.out; omega) (by have h1 := HLN.out; have h2 := HL.out; omega) hlz (by have h1 := HLN.out; have h2 := HL.out; omega) (by have h1 := HLN.out; have h2 := HL.out; omega) HSP.out.2.1 HSP.out.2.2.2 (by have h1 := HLN.out; have h2 := HL.out; omega)).mono ?_
                rintro ee w3 ⟨rfl, Z2, hz2, hb3, hf3⟩
                have HFIN2 : Hid (SymPost g n cap L X Y R w (.returned (.tuple #[])) w3) := (⟨rfl, Z1 ++ Z2, HFIN.out Z1 Z2 HZ1.out hz2, by simpa using hb3, HF2.out.trans' hf3⟩ : SymPost g n cap L X Y R w (.returned (.tuple #[])) w3)
                clear hz2 hb3 hf3 hlz
                go_wp2_with fail
                go_end0
                exact HFIN2.out
              · have ky2 : decide (e < b) = false := decide_eq_false cy2
                have g1 : (s : Int) < m := by omega
                have g2 : ¬ (m : Int) < e := by omega
                have g3 : (a : Int) < s := by omega
                have g4 : ¬ (s : Int) < mid := by have h1 := HLN.out; have h2 := HL.out; omega
                have g5 : (mid : Int) < e := by have h1 := HLN.out; have h2 := HL.out; omega
                have g6 : ¬ (e : Int) < b := by omega
                have CC := Lib.hid (And.intro cx1 (And.intro cy1 (And.intro cx2 cy2)))
                clear cx1 cy1 cx2 cy2
                go_wp2_with fail
                obtain ⟨w1, hw1⟩ : ∃ w1, wr = w1 := ⟨_, rfl⟩
                have hemp : Y1 = [] := nil_of HLN.out.2.2.1 (by have h1 := HLN.out; have h2 := HL.out; have h3 := CC.out; omega)
                have HB1 : Hid (BR g n cap w1 (L ++ X1 ++ Y1 ++ (X2 ++ (Y2 ++ R)))) := (by rw [← hw1]; have := HB0.out; rw [hemp] at this ⊢; simpa using this : BR g n cap w1 (L ++ X1 ++ Y1 ++ (X2 ++ (Y2 ++ R))))
                have HF1 : Hid (FrG g w w1) := (hw1 ▸ HF.out : FrG g w w1)
                rw [hw1]
                clear hemp hw1
                obtain ⟨w2, hw2⟩ : ∃ w2, w1 = w2 := ⟨_, rfl⟩
                have hemp : X1 = [] ∨ Y1 = [] := .inr (nil_of HLN.out.2.2.1 (by have h1 := HLN.out; have h2 := HL.out; have h3 := CC.out; omega))
                obtain ⟨Z1, hZ1⟩ : ∃ Z1, X1 ++ Y1 = Z1 := ⟨_, rfl⟩
                have HZ1 : Hid (StableOf FV.key (X1 ++ Y1) Z1) := (by rw [← hZ1]; exact stable_empty hemp HSP.out.1 HSP.out.2.2.1 : StableOf FV.key (X1 ++ Y1) Z1)
                have HB2 : Hid (BR g n cap w2 ((L ++ Z1) ++ X2 ++ Y2 ++ R)) := (by rw [← hw2, ← hZ1]; simpa using HB1.out : BR g n cap w2 ((L ++ Z1) ++ X2 ++ Y2 ++ R))
                have HF2 : Hid (FrG g w w2) := (hw2 ▸ HF1.out : FrG g w w2)
                rw [hw2]
                clear hemp hw2 hZ1
                have hemp : X2 = [] ∨ Y2 = [] := .inr (nil_of HLN.out.2.2.2.1 (by have h1 := HLN.out; have h2 := HL.out; have h3 := CC.out; omega))
                have HFIN2 : Hid (SymPost g n cap L X Y R w (.returned (.tuple #[])) w2) := (⟨rfl, Z1 ++ (X2 ++ Y2), HFIN.out Z1 (X2 ++ Y2) HZ1.out (stable_empty hemp HSP.out.2.1 HSP.out.2.2.2), by simpa using HB2.out, HF2.out⟩ : SymPost g n cap L X Y R w (.returned (.tuple #[])) w2)
                clear hemp
                go_end0
                exact HFIN2.out
            · have kx2 : decide (s < m) = false := decide_eq_false cx2
              by_cases cy2 : e < b
              · have ky2 : decide (e < b) = true := decide_eq_true cy2
                have g1 : ¬ (s : Int) < m := by omega
                have g2 : ¬ (m : Int) < e := by omega
                have g3 : (a : Int) < s := by omega
                have g4 : ¬ (s : Int) < mid := by have h1 := HLN.out; have h2 := HL.out; omega
                have g5 : ¬ (mid : Int) < e := by have h1 := HLN.out; have h2 := HL.out; omega
                have g6 : (e : Int) < b := by omega
                have CC := Lib.hid (And.intro cx1 (And.intro cy1 (And.intro cx2 cy2)))
                clear cx1 cy1 cx2 cy2
                go_wp2_with fail
                obtain ⟨w1, hw1⟩ : ∃ w1, wr = w1 := ⟨_, rfl⟩
                have hemp : X2 = [] := nil_of HLN.out.2.1 (by have h1 := HLN.out; have h2 := HL.out; have h3 := CC.out; omega)
                have HB1 : Hid (BR g n cap w1 (L ++ X1 ++ Y1 ++ (X2 ++ (Y2 ++ R)))) := (by rw [← hw1]; have := HB0.out; rw [hemp] at this ⊢; simpa using this : BR g n cap w1 (L ++ X1 ++ Y1 ++ (X2 ++ (Y2 ++ R))))
                have HF1 : Hid (FrG g w w1) := (hw1 ▸ HF.out : FrG g w w1)
                rw [hw1]
                clear hemp hw1
                obtain ⟨w2, hw2⟩ : ∃ w2, w1 = w2 := ⟨_, rfl⟩
                have hemp : X1 = [] ∨ Y1 = [] := .inr (nil_of HLN.out.2.2.1 (by have h1 := HLN.out; have h2 := HL.out; have h3 := CC.out; omega))
                obtain ⟨Z1, hZ1⟩ : ∃ Z1, X1 ++ Y1 = Z1 := ⟨_, rfl⟩
                have HZ1 : Hid (StableOf FV.key (X1 ++ Y1) Z1) := (by rw [← hZ1]; exact stable_empty hemp HSP.out.1 HSP.out.2.2.1 : StableOf FV.key (X1 ++ Y1) Z1)
                have HB2 : Hid (BR g n cap w2 ((L ++ Z1) ++ X2 ++ Y2 ++ R)) := (by rw [← hw2, ← hZ1]; simpa using HB1.out : BR g n cap w2 ((L ++ Z1) ++ X2 ++ Y2 ++ R))
                have HF2 : Hid (FrG g w w2) := (hw2 ▸ HF1.out : FrG g w w2)
                rw [hw2]
                clear hemp hw2 hZ1
                have hemp : X2 = [] ∨ Y2 = [] := .inl (nil_of HLN.out.2.1 (by have h1 := HLN.out; have h2 := HL.out; have h3 := CC.out; omega))
                have HFIN2 : Hid (SymPost g n cap L X Y R w (.returned (.tuple #[])) w2) := (⟨rfl, Z1 ++ (X2 ++ Y2), HFIN.out Z1 (X2 ++ Y2) HZ1.out (stable_empty hemp HSP.out.2.1 HSP.out.2.2.2), by simpa using HB2.out, HF2.out⟩ : SymPost g n cap L X Y R w (.returned (.tuple #[])) w2)
                clear hemp
                go_end0
                exact HFIN2.out
              · have ky2 : decide (e < b) = false := decide_eq_false cy2
                exfalso; have h1 := HLN.out; have h2 := HL.out; omega
        · have kx1 : decide (a < s) = false := decide_eq_false cx1
          by_cases cy1 : m < e
          · have ky1 : decide (m < e) = true := decide_eq_true cy1
            by_cases cx2 : s < m
            · have kx2 : decide (s < m) = true := decide_eq_true cx2
              by_cases cy2 : e < b
              · have ky2 : decide (e < b) = true := decide_eq_true cy2
                have g1 : (s : Int) < m := by omega
                have g2 : (m : Int) < e := by omega
                have g3 : ¬ (a : Int) < s := by omega
                have g4 : (s : Int) < mid := by have h1 := HLN.out; have h2 := HL.out; omega
                have g5 : (mid : Int) < e := by have h1 := HLN.out; have h2 := HL.out; omega
                have g6 : (e : Int) < b := by omega
                have CC := Lib.hid (And.intro cx1 (And.intro cy1 (And.intro cx2 cy2)))
                clear cx1 cy1 cx2 cy2
                go_wp2_with fail
                have hb0 : BR g n cap wr ((L ++ X1) ++ X2 ++ Y1 ++ (Y2 ++ R)) := by simpa using HB0.out
                refine (rotate_any g n cap s m e _ (L ++ X1) X2 Y1 (Y2 ++ R) wr hb0 HL.out.2.1 (by have h1 := HLN.out; have h2 := HL.out; omega) (by have h1 := HLN.out; have h2 := HL.out; omega) (by rw [List.length_append]; have h1 := HLN.out; have h2 := HL.out; omega) (by have h1 := HLN.out; have h2 := HL.out; omega) (by have h1 := HLN.out; have h2 := HL.out; omega)).mono ?_
                rintro ee w1 ⟨rfl, hb1, hf1⟩
                have HB1 : Hid (BR g n cap w1 (L ++ X1 ++ Y1 ++ (X2 ++ (Y2 ++ R)))) := (by simpa using hb1 : BR g n cap w1 (L ++ X1 ++ Y1 ++ (X2 ++ (Y2 ++ R))))
                have HF1 := Lib.hid (HF.out.trans' hf1)
                clear hb0 hb1 hf1
                go_wp2_with fail
                obtain ⟨w2, hw2⟩ : ∃ w2, w1 = w2 := ⟨_, rfl⟩
                have hemp : X1 = [] ∨ Y1 = [] := .inl (nil_of HLN.out.1 (by have h1 := HLN.out; have h2 := HL.out; have h3 := CC.out; omega))
                obtain ⟨Z1, hZ1⟩ : ∃ Z1, X1 ++ Y1 = Z1 := ⟨_, rfl⟩
                have HZ1 : Hid (StableOf FV.key (X1 ++ Y1) Z1) := (by rw [← hZ1]; exact stable_empty hemp HSP.out.1 HSP.out.2.2.1 : StableOf FV.key (X1 ++ Y1) Z1)
                have HB2 : Hid (BR g n cap w2 ((L ++ Z1) ++ X2 ++ Y2 ++ R)) := (by rw [← hw2, ← hZ1]; simpa using HB1.out : BR g n cap w2 ((L ++ Z1) ++ X2 ++ Y2 ++ R))
                have HF2 : Hid (FrG g w w2) := (hw2 ▸ HF1.out : FrG g w w2)
                rw [hw2]
                clear hemp hw2 hZ1
                have hlz : (L ++ Z1).length = mid := by have h3 := HB2.out.len; have h4 := HB1.out.len; simp only [List.length_append] at h3 h4 ⊢; have h1 := HLN.out; have h2 := HL.out; omega
                refine (IH.out mid e b (L ++ Z1) X2 Y2 R w2 HB2.out (by have h1 := HLN.out; have h2 := HL.out; omega) (by have h1 := HLN.out; have h2 := HL.out; omega) hlz (by have h1 := HLN.out; have h2 := HL.out; omega) (by have h1 := HLN.out; have h2 := HL.out; omega) HSP.out.2.1 HSP.out.2.2.2 (by have h1 := HLN.out; have h2 := HL.out; omega)).mono ?_
                rintro ee w3 ⟨rfl, Z2, hz2, hb3, hf3⟩
                have HFIN2 : Hid (SymPost g n cap L X Y R w (.returned (.tuple #[])) w3) := (⟨rfl, Z1 ++ Z2, HFIN.out Z1 Z2 HZ1.out hz2, by simpa using hb3, HF2.out.trans' hf3⟩ : SymPost g n cap L X Y R w (.returned (.tuple #[])) w3)
                clear hz2 hb3 hf3 hlz
                go_wp2_with fail
                go_end0
                exact HFIN2.out
              · have ky2 : decide (e < b) = false := decide_eq_false cy2
                have g1 : (s : Int) < m := by omega
                have g2 : (m : Int) < e := by omega
                have g3 : ¬ (a : Int) < s := by omega
                have g4 : (s : Int) < mid := by have h1 := HLN.out; have h2 := HL.out; omega
                have g5 : (mid : Int) < e := by have h1 := HLN.out; have h2 := HL.out; omega
                have g6 : ¬ (e : Int) < b := by omega
                have CC := Lib.hid (And.intro cx1 (And.intro cy1 (And.intro cx2 cy2)))
                clear cx1 cy1 cx2 cy2
                go_wp2_with fail
                have hb0 : BR g n cap wr ((L ++ X1) ++ X2 ++ Y1 ++ (Y2 ++ R)) := by simpa using HB0.out
                refine (rotate_any g n cap s m e _ (L ++ X1) X2 Y1 (Y2 ++ R) wr hb0 HL.out.2.1 (by have h1 := HLN.out; have h2 := HL.out; omega) (by have h1 := HLN.out; have h2 := HL.out; omega) (by rw [List.length_append]; have h1 := HLN.out; have h2 := HL.out; omega) (by have h1 := HLN.out; have h2 := HL.out; omega) (by have h1 := HLN.out; have h2 := HL.out; omega)).mono ?_
                rintro ee w1 ⟨rfl, hb1, hf1⟩
                have HB1 : Hid (BR g n cap w1 (L ++ X1 ++ Y1 ++ (X2 ++ (Y2 ++ R)))) := (by simpa using hb1 : BR g n cap w1 (L ++ X1 ++ Y1 ++ (X2 ++ (Y2 ++ R))))
                have HF1 := Lib.hid (HF.out.trans' hf1)
                clear hb0 hb1 hf1
                go_wp2_with fail
                obtain ⟨w2, hw2⟩ : ∃ w2, w1 = w2 := ⟨_, rfl⟩
                have hemp : X1 = [] ∨ Y1 = [] := .inl (nil_of HLN.out.1 (by have h1 := HLN.out; have h2 := HL.out; have h3 := CC.out; omega))
                obtain ⟨Z1, hZ1⟩ : ∃ Z1, X1 ++ Y1 = Z1 := ⟨_, rfl⟩
                have HZ1 : Hid (StableOf FV.key (X1 ++ Y1) Z1) := (by rw [← hZ1]; exact stable_empty hemp HSP.out.1 HSP.out.2.2.1 : StableOf FV.key (X1 ++ Y1) Z1)
                have HB2 : Hid (BR g n cap w2 ((L ++ Z1) ++ X2 ++ Y2 ++ R)) := (by rw [← hw2, ← hZ1]; simpa using HB1.out : BR g n cap w2 ((L ++ Z1) ++ X2 ++ Y2 ++ R))
                have HF2 : Hid (FrG g w w2) := (hw2 ▸ HF1.out : FrG g w w2)
                rw [hw2]
                clear hemp hw2 hZ1
                have hemp : X2 = [] ∨ Y2 = [] := .inr (nil_of HLN.out.2.2.2.1 (by have h1 := HLN.out; have h2 := HL.out; have h3 := CC.out; omega))
                have HFIN2 : Hid (SymPost g n cap L X Y R w (.returned (.tuple #[])) w2) := (⟨rfl, Z1 ++ (X2 ++ Y2), HFIN.out Z1 (X2 ++ Y2) HZ1.out (stable_empty hemp HSP.out.2.1 HSP.out.2.2.2), by simpa using HB2.out, HF2.out⟩ : SymPost g n cap L X Y R w (.returned (.tuple #[])) w2)
                clear hemp
                go_end0
                exact HFIN2.out
            · have kx2 : decide (s < m) = false := decide_eq_false cx2
              by_cases cy2 : e < b
              · have ky2 : decide (e < b) = true := decide_eq_true cy2
                have g1 : ¬ (s : Int) < m := by omega
                have g2 : (m : Int) < e := by omega
                have g3 : ¬ (a : Int) < s := by omega
                have g4 : (s : Int) < mid := by have h1 := HLN.out; have h2 := HL.out; omega
                have g5 : ¬ (mid : Int) < e := by have h1 := HLN.out; have h2 := HL.out; omega
                have g6 : (e : Int) < b := by omega
                have CC := Lib.hid (And.intro cx1 (And.intro cy1 (And.intro cx2 cy2)))
                clear cx1 cy1 cx2 cy2
                go_wp2_with fail
                obtain ⟨w1, hw1⟩ : ∃ w1, wr = w1 := ⟨_, rfl⟩
                have hemp : X2 = [] := nil_of HLN.out.2.1 (by have h1 := HLN.out; have h2 := HL.out; have h3 := CC.out; omega)
                have HB1 : Hid (BR g n cap w1 (L ++ X1 ++ Y1 ++ (X2 ++ (Y2 ++ R)))) := (by rw [← hw1]; have := HB0.out; rw [hemp] at this ⊢; simpa using this : BR g n cap w1 (L ++ X1 ++ Y1 ++ (X2 ++ (Y2 ++ R))))
                have HF1 : Hid (FrG g w w1) := (hw1 ▸ HF.out : FrG g w w1)
                rw [hw1]
                clear hemp hw1
                obtain ⟨w2, hw2⟩ : ∃ w2, w1 = w2 := ⟨_, rfl⟩
                have hemp : X1 = [] ∨ Y1 = [] := .inl (nil_of HLN.out.1 (by have h1 := HLN.out; have h2 := HL.out; have h3 := CC.out; omega))
                obtain ⟨Z1, hZ1⟩ : ∃ Z1, X1 ++ Y1 = Z1 := ⟨_, rfl⟩
                have HZ1 : Hid (StableOf FV.key (X1 ++ Y1) Z1) := (by rw [← hZ1]; exact stable_empty hemp HSP.out.1 HSP.out.2.2.1 : StableOf FV.key (X1 ++ Y1) Z1)
                have HB2 : Hid (BR g n cap w2 ((L ++ Z1) ++ X2 ++ Y2 ++ R)) := (by rw [← hw2, ← hZ1]; simpa using HB1.out : BR g n cap w2 ((L ++ Z1) ++ X2 ++ Y2 ++ R))
                have HF2 : Hid (FrG g w w2) := (hw2 ▸ HF1.out : FrG g w w2)
                rw [hw2]
                clear hemp hw2 hZ1
                have hemp : X2 = [] ∨ Y2 = [] := .inl (nil_of HLN.out.2.1 (by have h1 := HLN.out; have h2 := HL.out; have h3 := CC.out; omega))
                have HFIN2 : Hid (SymPost g n cap L X Y R w (.returned (.tuple #[])) w2) := (⟨rfl, Z1 ++ (X2 ++ Y2), HFIN.out Z1 (X2 ++ Y2) HZ1.out (stable_empty hemp HSP.out.2.1 HSP.out.2.2.2), by simpa using HB2.out, HF2.out⟩ : SymPost g n cap L X Y R w (.returned (.tuple #[])) w2)
                clear hemp
                go_end0
                exact HFIN2.out
              · have ky2 : decide (e < b) = false := decide_eq_false cy2
                exfalso; have h1 := HLN.out; have h2 := HL.out; omega
          · have ky1 : decide (m < e) = false := decide_eq_false cy1
            by_cases cx2 : s < m
            · have kx2 : decide (s < m) = true := decide_eq_true cx2
              by_cases cy2 : e < b
              · have ky2 : decide (e < b) = true := decide_eq_true cy2
                exfalso; have h1 := HLN.out; have h2 := HL.out; omega
              · have ky2 : decide (e < b) = false := decide_eq_false cy2
                exfalso; have h1 := HLN.out; have h2 := HL.out; omega
            · have kx2 : decide (s < m) = false := decide_eq_false cx2
              by_cases cy2 : e < b
              · have ky2 : decide (e < b) = true := decide_eq_true cy2
                exfalso; have h1 := HLN.out; have h2 := HL.out; omega
              · have ky2 : decide (e < b) = false := decide_eq_false cy2
                exfalso; have h1 := HLN.out; have h2 := HL.out; omega
end Go.Proofs.YtlgonkopojancaaDoor
