/- symMerge whole; the insertion sort of a block is stable. -/
/- insertionSort at files, off the library's contract. -/
/- Blocks that stand sorted. -/
/- The walk of SortStableFunc: what it leaves of n files. -/
import Derived.Test.YtlgonkopojancaaDoorFxSymC
import Derived.Test.YtlgonkopojancaaDoorFxShelf
import Derived.Test.YtlgonkopojancaaDoorFxOne
namespace Go.Proofs.YtlgonkopojancaaDoor
open Go.RowKit Go.Sort

theorem sym_any (g n cap : Nat) (h63 : n ≤ 1000000) : ∀ N, SymOk g n cap N := by
  intro N
  induction N with
  | zero => intro a m b L X Y R w h hX hY ha hm hb hsx hsy hlt; omega
  | succ N ih =>
    intro a m b L X Y R w h hX hY ha hm hb hsx hsy hlt
    by_cases h1 : X.length = 1
    · obtain ⟨x, rfl⟩ : ∃ x, X = [x] := by
        match X, h1 with
        | [x], _ => exact ⟨x, rfl⟩
      exact sym_one g n cap a m b x L Y R w h h63 hY ha (by simpa using hm) hb hsy
    · by_cases h2 : Y.length = 1
      · obtain ⟨y, rfl⟩ : ∃ y, Y = [y] := by
          match Y, h2 with
          | [y], _ => exact ⟨y, rfl⟩
        exact sym_last g n cap a m b y L X R w h h63 (by omega) ha hm (by simpa using hb) hsx
      · refine sym_two g n cap a m b L X Y R w h h63 (by omega) (by omega) ha hm hb hsx hsy ?_
        intro a' m' b' L' X' Y' R' w' g1 g2 g3 g4 g5 g6 g7 g8 g9
        exact ih a' m' b' L' X' Y' R' w' g1 g2 g3 g4 g5 g6 g7 g8 (by omega)

/-- the closure's answer -/
def cfV (u v : FV) : Int := cmpI u.f.name v.f.name
theorem ltOf_lt (u v : FV) : ltOf cfV u v = lt u v := by
  unfold ltOf cfV lt
  rcases h : lessB u.f.name v.f.name with _ | _
  · have := cmp_pos h
    exact decide_eq_false (by omega)
  · rw [cmp_neg h]; rfl
theorem arr_get {d : Array FV} {A C : List FV} {x : FV} {i : Nat} (h : d.toList = A ++ x :: C) (hi : A.length = i) : d[i]! = x := by
  have h1 : d.toList[i]? = some x := by
    rw [h, List.getElem?_append_right (by omega), ← hi, Nat.sub_self]
    rfl
  have h2 : d[i]? = some x := by simpa using h1
  simp [Array.getElem!_eq_getD, Array.getD_eq_getD_getElem?, h2]
theorem swp_toList {d : Array FV} {A C : List FV} {x y : FV} {i : Nat} (h : d.toList = A ++ x :: y :: C) (hi : A.length = i) : (swp d (i + 1) i).toList = A ++ y :: x :: C := by
  have e1 : d[i]! = x := arr_get h hi
  have e2 : d[i + 1]! = y := arr_get (A := A ++ [x]) (C := C) (by rw [h]; simp) (by simp [hi])
  unfold swp
  rw [e1, e2, Array.toList_setIfInBounds, Array.toList_setIfInBounds, h]
  have e3 : (A ++ x :: y :: C).set (i + 1) x = A ++ x :: x :: C := by
    rw [List.set_append_right _ _ (by omega), show i + 1 - A.length = 1 by omega]
    rfl
  rw [e3, set_app hi]
theorem inner_toList (a : Nat) (L R : List FV) (x : FV) (ha : L.length = a) : ∀ (k : Nat) (P Q : List FV) (d : Array FV), P.length = k → d.toList = L ++ P ++ x :: (Q ++ R) →
    ∃ P1 P2, P = P1 ++ P2 ∧ (insInner (ltOf cfV) a (a + k) d).toList = L ++ P1 ++ x :: (P2 ++ Q ++ R) ∧ (P1 = [] ∨ ∃ P' y, P1 = P' ++ [y] ∧ lt x y = false) ∧ (∀ y ∈ P2, lt x y = true)
  | 0, P, Q, d, hp, hd => by
    have : P = [] := List.eq_nil_of_length_eq_zero hp
    subst this
    refine ⟨[], [], rfl, ?_, .inl rfl, fun y hy => by simp at hy⟩
    rw [Nat.add_zero]
    have hstop : insInner (ltOf cfV) a a d = d := by
      cases a with
      | zero => rw [insInner]
      | succ a => rw [insInner]; simp
    rw [hstop, hd]
    simp
  | k + 1, P, Q, d, hp, hd => by
    obtain ⟨P0, y, rfl⟩ : ∃ P' y, P = P' ++ [y] := ⟨P.dropLast, P.getLast (by intro e; rw [e] at hp; cases hp), (List.dropLast_concat_getLast _).symm⟩
    have hp0 : P0.length = k := by simpa using hp
    have hd2 : d.toList = (L ++ P0) ++ y :: x :: (Q ++ R) := by rw [hd]; simp
    have e1 : d[a + k]! = y := arr_get hd2 (by simp; omega)
    have e2 : d[a + k + 1]! = x := arr_get (A := L ++ P0 ++ [y]) (C := Q ++ R) (by rw [hd2]; simp) (by simp; omega)
    rw [show a + (k + 1) = a + k + 1 by omega, insInner, e1, e2, ltOf_lt]
    have hgt : decide (a + k + 1 > a) = true := decide_eq_true (by omega)
    rcases hl : lt x y with _ | _
    · rw [hgt]
      simp only [Bool.and_false, Bool.false_eq_true, if_false]
      refine ⟨P0 ++ [y], [], by simp, ?_, .inr ⟨P0, y, rfl, hl⟩, fun y hy => by simp at hy⟩
      rw [hd]
      simp
    · rw [hgt]
      simp only [Bool.and_true, if_true]
      have hs := swp_toList (d := d) (A := L ++ P0) (i := a + k) hd2 (by simp; omega)
      obtain ⟨P1, P2, h1, h2, h3, h4⟩ := inner_toList a L R x ha k P0 (y :: Q) (swp d (a + k + 1) (a + k)) hp0 (by rw [hs]; simp)
      refine ⟨P1, P2 ++ [y], by rw [h1]; simp, ?_, h3, fun z hz => ?_⟩
      · rw [h2]; simp
      · rcases List.mem_append.1 hz with hz | hz
        · exact h4 z hz
        · simp at hz; subst hz; exact hl
theorem ins_step {X0 Z P1 P2 : List FV} {x : FV} (hz : StableOf FV.key X0 Z) (he : Z = P1 ++ P2) (h1 : P1 = [] ∨ ∃ P' y, P1 = P' ++ [y] ∧ lt x y = false) (h2 : ∀ y ∈ P2, lt x y = true) : StableOf FV.key (X0 ++ [x]) (P1 ++ x :: P2) := by
  have hs : Srt FV.key (P1 ++ P2) := he ▸ hz.1
  have hx : Srt FV.key [x] := List.pairwise_singleton _ _
  have hleq : Leq FV.key P1 [x] := by
    refine leq_of FV.key (srt_left FV.key hs) hx ?_
    rcases h1 with h1 | ⟨P', y, rfl, hl⟩
    · exact .inl h1
    · exact .inr (.inr ⟨y, x, P', [], rfl, rfl, hl⟩)
  have hlss : Lss FV.key [x] P2 := fun u hu v hv => by
    simp at hu
    subst hu
    exact h2 v hv
  have a1 : StableOf FV.key (P1 ++ [x]) (P1 ++ [x]) := stable_srt FV.key (srt_app FV.key (srt_left FV.key hs) hx hleq)
  have a2 : StableOf FV.key (P2 ++ []) P2 := by rw [List.append_nil]; exact stable_srt FV.key (srt_right FV.key hs)
  have := stable_parts FV.key (X1 := P1) (X2 := P2) (Y1 := [x]) (Y2 := []) hs hx hlss (fun _ _ _ h => by simp at h) a1 a2
  refine ⟨by simpa using this.1, fun k => ?_⟩
  have h3 := this.2 k
  simp only [List.append_assoc, List.cons_append, List.nil_append] at h3
  rw [h3, ← List.append_assoc, ← he, List.filter_append, hz.2 k, List.filter_append]
theorem outer_toList (a b : Nat) (L : List FV) (ha : L.length = a) : ∀ (k : Nat) (X0 Z T R : List FV) (d : Array FV), T.length = k → StableOf FV.key X0 Z → Z.length = X0.length → d.toList = L ++ Z ++ T ++ R → a + Z.length + k = b →
    ∃ Z', StableOf FV.key (X0 ++ T) Z' ∧ Z'.length = (X0 ++ T).length ∧ (insOuter (ltOf cfV) a b (a + Z.length) d).toList = L ++ Z' ++ R
  | 0, X0, Z, T, R, d, hk, hz, hzl, hd, hb => by
    have : T = [] := List.eq_nil_of_length_eq_zero hk
    subst this
    rw [insOuter, if_neg (by omega)]
    exact ⟨Z, by rw [List.append_nil]; exact hz, by rw [List.append_nil]; exact hzl, by rw [hd]; simp⟩
  | k + 1, X0, Z, T, R, d, hk, hz, hzl, hd, hb => by
    obtain ⟨x, T', rfl⟩ : ∃ x T', T = x :: T' := by
      cases T with
      | nil => cases hk
      | cons x T' => exact ⟨x, T', rfl⟩
    have hk' : T'.length = k := by simpa using hk
    rw [insOuter, if_pos (by omega)]
    obtain ⟨P1, P2, h1, h2, h3, h4⟩ := inner_toList a L (T' ++ R) x ha Z.length Z [] d rfl (by rw [hd]; simp)
    have hst := ins_step hz h1 h3 h4
    have hl : (P1 ++ x :: P2).length = Z.length + 1 := by rw [h1]; simp; omega
    have := outer_toList a b L ha k (X0 ++ [x]) (P1 ++ x :: P2) T' R (insInner (ltOf cfV) a (a + Z.length) d) hk' hst (by rw [hl]; simp [hzl]) (by rw [h2]; simp) (by rw [hl]; omega)
    rw [hl] at this
    obtain ⟨Z', g1, g2, g3⟩ := this
    refine ⟨Z', by simpa using g1, by simpa using g2, ?_⟩
    rw [← g3]
    rfl
theorem insertion_toList {d : Array FV} {L X R : List FV} {a b : Nat} (ha : L.length = a) (hb : a + X.length = b) (hd : d.toList = L ++ X ++ R) : ∃ Z, StableOf FV.key X Z ∧ Z.length = X.length ∧ (insertionSort (ltOf cfV) d a b).toList = L ++ Z ++ R := by
  unfold insertionSort
  cases X with
  | nil =>
    rw [insOuter, if_neg (by simp at hb; omega)]
    exact ⟨[], stable_nil FV.key, rfl, hd⟩
  | cons x T =>
    have := outer_toList a b L ha T.length [x] [x] T R d rfl (stable_short _ _ (by simp)) rfl (by rw [hd]; simp) (by simp at hb ⊢; omega)
    simpa using this
end Go.Proofs.YtlgonkopojancaaDoor
namespace Go.Proofs.YtlgonkopojancaaDoor
open Go.RowKit Go.Sort

theorem flatK_flat (vs : List FV) : flatK FV.cells 4 vs.toArray = (flat vs).toArray := by
  apply Array.ext
  · simp [length_flat]
  · intro t h1 h2
    have ht : t < vs.length * 4 := by simpa using h1
    have hq : t / 4 < vs.length := by omega
    have e1 : (flatK FV.cells 4 vs.toArray)[t] = (FV.cells (vs[t / 4]'hq))[t % 4]! := by
      have := get_flatK FV.cells 4 vs.toArray t (by simpa using ht)
      rw [getElem!_pos _ t h1] at this
      rw [this]
      simp [Array.getElem!_eq_getD, Array.getD_eq_getD_getElem?, List.getElem?_eq_getElem hq]
    have hc : t % 4 < (FV.cells (vs[t / 4]'hq)).length := by rw [FV.length_cells]; omega
    have e2 := flat_at vs (t / 4) hq (t % 4) ((FV.cells (vs[t / 4]'hq))[t % 4]'hc) (by rw [getD_eq hq]; exact List.getElem?_eq_getElem hc)
    rw [show t / 4 * 4 + t % 4 = t by omega] at e2
    rw [e1]
    have h3 : t < (flat vs).length := by rw [length_flat]; exact ht
    rw [List.getElem?_eq_getElem h3] at e2
    have e3 : (FV.cells (vs[t / 4]'hq))[t % 4]! = (FV.cells (vs[t / 4]'hq))[t % 4]'hc := getElem!_pos (FV.cells (vs[t / 4]'hq)) (t % 4) hc
    rw [e3]
    simp only [List.getElem_toArray]
    exact (Option.some.inj e2).symm
theorem BR.holds {g n cap : Nat} {w : World} {vs : List FV} (h : BR g n cap w vs) : HoldsK FV.cells 4 w g 0 vs.toArray := by
  obtain ⟨cur, hg, hc, hm, hs, ht⟩ := h.block
  have hl := h.len
  have hcl : cur.toList.length = cap * 4 := by simpa using hs
  unfold HoldsK
  rw [flatK_flat]
  intro j hj
  have hj' : j < (flat vs).length := by simpa using hj
  have hjn : j < n * 4 := by rw [length_flat] at hj'; omega
  rw [Nat.zero_add, blk_cell hg]
  refine ⟨?_, blk_frozen hg _⟩
  have e : (flat vs)[j]? = cur.toList[j]? := by rw [← ht, List.getElem?_take_of_lt hjn]
  have e2 : cur[j]? = some (flat vs)[j] := by
    rw [List.getElem?_eq_getElem hj'] at e
    simpa using e.symm
  rw [e2]
  simp [List.getElem?_eq_getElem hj']
theorem sorted_BR {g n cap m : Nat} {w : World} {vs : List FV} {dk : Array FV} {os : Array Obj} (h : BR g n cap w vs) (hd : dk.size = n) : BR g n cap (sortWorldK FV.cells 4 w g 0 m dk os) dk.toList ∧ FrG g w (sortWorldK FV.cells 4 w g 0 m dk os) := by
  obtain ⟨cur, hg, hc, hm, hs, ht⟩ := h.block
  have hlt := h.lt
  have hcl : cur.toList.length = cap * 4 := by simpa using hs
  have hblk : (sortWorldK FV.cells 4 w g 0 m dk os).heap[g]? = some (.cells (putCells id 0 (flatK FV.cells 4 dk) cur) 33 (0, 0)) := by
    unfold sortWorldK grow putRowK putRow mapBlock
    simp only
    rw [Array.getElem?_append_left (by simpa using hlt), Array.getElem?_modify, if_pos rfl]
    show (w.heap[g]?).map _ = _
    rw [hg]
    rfl
  have hfl : flatK FV.cells 4 dk = (flat dk.toList).toArray := flatK_flat dk.toList
  constructor
  · refine BR.mk hblk hc hm (by unfold putCells; simpa using hs) ?_
    rw [hfl]
    have hll : (flat dk.toList).length = n * 4 := by rw [length_flat]; simp [hd]
    apply List.ext_getElem?
    intro t
    by_cases htn : t < n * 4
    · rw [List.getElem?_take_of_lt htn]
      unfold putCells
      have hcur : t < cur.size := by omega
      simp [hcur, hll, htn]
    · rw [List.getElem?_eq_none (by simp; omega), List.getElem?_eq_none (by omega)]
  · refine ⟨rfl, rfl, rfl, ?_, fun k hk hn => ?_⟩
    · unfold sortWorldK grow putRowK putRow mapBlock
      simp only [Array.size_append, Array.size_modify]
      show w.heap.size ≤ w.heap.size + _
      omega
    · unfold sortWorldK grow putRowK putRow mapBlock
      simp only
      rw [Array.getElem?_append_left (by simpa using hk), Array.getElem?_modify, if_neg (fun e => hn e.symm)]
      rfl
theorem cmp_lays (g size : Nat) (w : World) : CmpLays Tryd.prog 35 #[] FV.cells 4 cfV g 0 size w := by
  intro m os dk _ x y
  refine (sort1_any x y _).mono ?_
  rintro e w' ⟨rfl, rfl⟩
  refine ⟨rfl, 0, #[.cells x.cells.toArray 33, .cells y.cells.toArray 33], ?_⟩
  unfold grow World.alloc World.drewN
  simp only [Array.push_eq_append, Array.append_assoc]
  rfl
theorem ins_any (g n cap a b : Nat) (L X R : List FV) (w : World) (h : BR g n cap w (L ++ X ++ R)) (h63 : n ≤ 1000000) (ha : L.length = a) (hb : a + X.length = b) :
    Calls Tryd.prog 57 #[.slice (some ⟨g, 0, none⟩) n cap, .int .i64 a, .int .i64 b, cmpV] w fun e w' => e = .returned (.tuple #[]) ∧ ∃ Z, StableOf FV.key X Z ∧ Z.length = X.length ∧ BR g n cap w' (L ++ Z ++ R) ∧ FrG g w w' := by
  have hl := h.len
  simp only [List.length_append] at hl
  have hsz : (L ++ X ++ R).toArray.size = n := by simp; omega
  have key := AnyQ.insertionSortCmpFunc Tryd.lins 4 isAgg33 sizeOf33 FV.cells FV.length_cells one4 cfV 35 #[] g 0 cap a b (L ++ X ++ R).toArray w enters35 (cmp_lays _ _ _) h.holds h.lt (by omega) (by rw [hsz]; omega) (by rw [hsz]; omega)
  rw [hsz] at key
  refine key.mono ?_
  rintro e w' ⟨rfl, m, os, rfl⟩
  obtain ⟨Z, h1, h2, h3⟩ := insertion_toList (d := (L ++ X ++ R).toArray) (L := L) (X := X) (R := R) (a := a) (b := b) ha hb rfl
  obtain ⟨h4, h5⟩ := sorted_BR (m := m) (os := os) (dk := insertionSort (ltOf cfV) (L ++ X ++ R).toArray a b) h (by
    have : (insertionSort (ltOf cfV) (L ++ X ++ R).toArray a b).toList.length = n := by rw [h3]; simp only [List.length_append]; omega
    simpa using this)
  rw [h3] at h4
  exact ⟨rfl, Z, h1, h2, h4, h5⟩
end Go.Proofs.YtlgonkopojancaaDoor
namespace Go.Proofs.YtlgonkopojancaaDoor
open Go.RowKit

def FilEq (V U : List FV) : Prop := ∀ k, U.filter (fun x => decide (FV.key x = k)) = V.filter (fun x => decide (FV.key x = k))
theorem FilEq.step {V U L X Z R : List FV} (h : FilEq V U) (hU : U = L ++ X ++ R) (hz : StableOf FV.key X Z) : FilEq V (L ++ Z ++ R) := fun k => by
  rw [← h k, hU]
  simp only [List.filter_append, hz.2 k]
theorem seg_low {L X R : List FV} {i j : Nat} (h : j ≤ L.length) : seg (L ++ X ++ R) i j = seg L i j := by
  unfold seg
  by_cases hi : i ≤ L.length
  · rw [List.append_assoc, List.drop_append_of_le_length hi, List.take_append_of_le_length (by rw [List.length_drop]; omega)]
  · rw [show j - i = 0 by omega]; simp
theorem seg_high {L X R : List FV} {i j : Nat} (h : L.length + X.length ≤ i) : seg (L ++ X ++ R) i j = seg R (i - (L.length + X.length)) (j - (L.length + X.length)) := by
  unfold seg
  have hl : (L ++ X).length = L.length + X.length := List.length_append
  rw [List.drop_append, List.drop_of_length_le (by omega), List.nil_append, hl]
  congr 1
  omega
theorem seg_mid {L X R : List FV} {i j : Nat} (hi : L.length = i) (hj : i + X.length = j) : seg (L ++ X ++ R) i j = X := by
  subst hi; subst hj
  unfold seg
  rw [List.append_assoc, List.drop_left, Nat.add_sub_cancel_left, List.take_left]
theorem seg_end {L X : List FV} {i j : Nat} (hi : L.length = i) (hj : i + X.length ≤ j) : seg (L ++ X) i j = X := by
  subst hi
  unfold seg
  rw [List.drop_left, List.take_of_length_le (by omega)]
theorem seg_out {U : List FV} {i j : Nat} (h : U.length ≤ i) : seg U i j = [] := by unfold seg; rw [List.drop_of_length_le h]; simp
theorem seg_cut {U : List FV} {i j j' : Nat} (h : U.length ≤ j) (h' : U.length ≤ j') : seg U i j = seg U i j' := by
  unfold seg
  rw [List.take_of_length_le (by rw [List.length_drop]; omega), List.take_of_length_le (by rw [List.length_drop]; omega)]
/-- the blocks of s before the p-th, and those from the q-th on -/
def Lo (s p : Nat) (U : List FV) : Prop := ∀ t, t < p → Srt FV.key (seg U (t * s) ((t + 1) * s))
def Hi (s q : Nat) (U : List FV) : Prop := ∀ t, q ≤ t → Srt FV.key (seg U (t * s) ((t + 1) * s))
theorem srt_nil : Srt FV.key [] := List.Pairwise.nil
theorem mul_step {t p s : Nat} (h : t < p) : (t + 1) * s ≤ p * s := Nat.mul_le_mul_right s h
theorem lo_put {s p : Nat} {L X Z R : List FV} (h : Lo s p (L ++ X ++ R)) (hl : L.length = p * s) (hz : Srt FV.key Z) (hs : L.length + Z.length = (p + 1) * s ∨ (R = [] ∧ L.length + Z.length ≤ (p + 1) * s)) : Lo s (p + 1) (L ++ Z ++ R) := fun t ht => by
  by_cases hp : t < p
  · have := h t hp
    have hm := mul_step (s := s) hp
    rw [seg_low (by omega)] at this ⊢
    exact this
  · have : t = p := by omega
    subst this
    rcases hs with hs | ⟨rfl, hs⟩
    · rw [seg_mid hl (by omega)]; exact hz
    · rw [List.append_nil, seg_end hl (by omega)]; exact hz
theorem hi_put {s q : Nat} {L X Z R : List FV} (h : Hi s q (L ++ X ++ R)) (hx : X.length = Z.length) (hq : L.length + X.length ≤ q * s) : Hi s q (L ++ Z ++ R) := fun t ht => by
  have := h t ht
  have hm : q * s ≤ t * s := Nat.mul_le_mul_right s ht
  rw [seg_high (by omega)] at this ⊢
  rw [← hx]
  exact this
theorem hi_out {s q : Nat} {U : List FV} (h : U.length ≤ q * s) : Hi s q U := fun t ht => by
  have hm : q * s ≤ t * s := Nat.mul_le_mul_right s ht
  rw [seg_out (by omega)]
  exact srt_nil
theorem lo_hi {s p : Nat} {U : List FV} (h : Lo s p U) (g : Hi s p U) : Hi s 0 U := fun t _ => by
  by_cases ht : t < p
  · exact h t ht
  · exact g t (by omega)
theorem hi_whole {s : Nat} {U : List FV} (h : Hi s 0 U) (hs : U.length ≤ s) : Srt FV.key U := by
  have := h 0 (Nat.le_refl _)
  rw [Nat.zero_mul, Nat.zero_add, Nat.one_mul] at this
  unfold seg at this
  rw [List.drop_zero, Nat.sub_zero, List.take_of_length_le hs] at this
  exact this
theorem three {U : List FV} {i j : Nat} (h : i ≤ j) (hj : j ≤ U.length) : U = U.take i ++ seg U i j ++ U.drop j ∧ (U.take i).length = i ∧ i + (seg U i j).length = j := by
  refine ⟨by rw [List.append_assoc]; exact whole_seg h, by rw [List.length_take]; omega, by rw [seg_len hj]; omega⟩
end Go.Proofs.YtlgonkopojancaaDoor
namespace Go.Proofs.YtlgonkopojancaaDoor
open Go.RowKit

def Mid (g n cap : Nat) (V : List FV) (w0 wr : World) (U : List FV) : Prop := BR g n cap wr U ∧ FilEq V U ∧ FrG g w0 wr
theorem stable_len {X Z : List FV} (h : StableOf FV.key X Z) : Z.length = X.length := by
  haveI : DecidableEq FV := fun _ _ => Classical.propDecidable _
  exact (filters_perm h.2).length_eq

theorem ins_blk {g n cap T s a b : Nat} {U V : List FV} {w0 wr : World} (hM : Mid g n cap V w0 wr U) (h63 : n ≤ 1000000) (ha : a = T * s) (hab : a ≤ b) (hbn : b ≤ n) (hb : b = (T + 1) * s ∨ (b = n ∧ b ≤ (T + 1) * s)) (hlo : Lo s T U) :
    Calls Tryd.prog 57 #[.slice (some ⟨g, 0, none⟩) n cap, .int .i64 a, .int .i64 b, cmpV] wr fun e w' => e = .returned (.tuple #[]) ∧ ∃ U', Mid g n cap V w0 w' U' ∧ Lo s (T + 1) U' := by
  obtain ⟨h1, h2, h3⟩ := hM
  have hl := h1.len
  obtain ⟨e1, e2, e3⟩ := three (U := U) hab (by omega)
  refine (ins_any g n cap a b (U.take a) (seg U a b) (U.drop b) wr (e1 ▸ h1) h63 e2 e3).mono ?_
  rintro e w' ⟨rfl, Z, hz, hzl, hb', hf⟩
  refine ⟨rfl, _, ⟨hb', h2.step e1 hz, h3.trans' hf⟩, ?_⟩
  refine lo_put (X := seg U a b) (by rw [← e1]; exact hlo) (by omega) hz.1 ?_
  rcases hb with hb | ⟨hb, hb2⟩
  · left; omega
  · right; exact ⟨by rw [List.drop_of_length_le (by omega)], by omega⟩
theorem dbl (T s : Nat) : T * (2 * s) = 2 * T * s ∧ (T + 1) * (2 * s) = (2 * T + 1 + 1) * s ∧ (2 * T + 1) * s = 2 * T * s + s ∧ (2 * T + 1 + 1) * s = 2 * T * s + 2 * s := by
  refine ⟨by rw [Nat.mul_comm 2 s, ← Nat.mul_assoc, Nat.mul_comm (T * s) 2, Nat.mul_assoc], ?_, by rw [Nat.add_mul, Nat.one_mul], by rw [Nat.add_mul, Nat.add_mul]; omega⟩
  rw [Nat.add_mul, Nat.one_mul, Nat.mul_comm 2 s, ← Nat.mul_assoc, Nat.mul_comm (T * s) 2, ← Nat.mul_assoc, Nat.add_mul, Nat.add_mul]
  omega
theorem sym_blk {g n cap T s a m b : Nat} {U V : List FV} {w0 wr : World} (hM : Mid g n cap V w0 wr U) (h63 : n ≤ 1000000) (hs : 0 < s) (ha : a = T * (2 * s)) (hm : m = a + s) (hmb : m < b) (hbn : b ≤ n) (hb : b = (T + 1) * (2 * s) ∨ (b = n ∧ b ≤ (T + 1) * (2 * s))) (hlo : Lo (2 * s) T U) (hhi : Hi s (2 * T) U) :
    Calls Tryd.prog 58 #[.slice (some ⟨g, 0, none⟩) n cap, .int .i64 a, .int .i64 m, .int .i64 b, cmpV] wr fun e w' => e = .returned (.tuple #[]) ∧ ∃ U', Mid g n cap V w0 w' U' ∧ Lo (2 * s) (T + 1) U' ∧ Hi s (2 * (T + 1)) U' := by
  obtain ⟨h1, h2, h3⟩ := hM
  have hl := h1.len
  obtain ⟨d1, d2, d3, d4⟩ := dbl T s
  obtain ⟨e1, e2, e3⟩ := three (U := U) (i := a) (j := b) (by omega) (by omega)
  have e4 : seg U a b = seg U a m ++ seg U m b := seg_split (by omega) (by omega)
  have l1 : (seg U a m).length = s := by rw [seg_len (by omega)]; omega
  have l2 : (seg U m b).length = b - m := seg_len (by omega)
  have hX : Srt FV.key (seg U a m) := by
    have := hhi (2 * T) (Nat.le_refl _)
    rw [← d1, ← ha, d3, ← d1, ← ha, ← hm] at this
    exact this
  have hY : Srt FV.key (seg U m b) := by
    have := hhi (2 * T + 1) (by omega)
    rw [d3, ← d1, ← ha, ← hm] at this
    rcases hb with hb | ⟨hb, hb2⟩
    · rw [← d2, ← hb] at this; exact this
    · rw [seg_cut (j' := b) (by rw [← d2]; omega) (by omega)] at this; exact this
  have hU : U = U.take a ++ seg U a m ++ seg U m b ++ U.drop b := by rw [List.append_assoc (U.take a), ← e4]; exact e1
  refine (sym_any g n cap h63 _ a m b (U.take a) (seg U a m) (seg U m b) (U.drop b) wr (hU ▸ h1) (by omega) (by omega) e2 (by omega) (by omega) hX hY (Nat.lt_succ_self _)).mono ?_
  rintro e w' ⟨rfl, Z, hz, hb', hf⟩
  have hzl : Z.length = (seg U a m ++ seg U m b).length := stable_len hz
  have hzl2 : Z.length = b - a := by rw [hzl, List.length_append]; omega
  refine ⟨rfl, _, ⟨hb', h2.step (X := seg U a m ++ seg U m b) (by rw [← e4]; exact e1) hz, h3.trans' hf⟩, ?_, ?_⟩
  · refine lo_put (X := seg U a b) (by rw [← e1]; exact hlo) (by omega) hz.1 ?_
    rcases hb with hb | ⟨hb, hb2⟩
    · left; omega
    · right; exact ⟨by rw [List.drop_of_length_le (by omega)], by omega⟩
  · rcases hb with hb | ⟨hb, hb2⟩
    · refine hi_put (X := seg U a b) ?_ (by omega) (by rw [show 2 * (T + 1) = 2 * T + 1 + 1 by omega, ← d2]; omega)
      rw [← e1]
      exact fun t ht => hhi t (by omega)
    · refine hi_out ?_
      rw [show 2 * (T + 1) = 2 * T + 1 + 1 by omega, ← d2]
      have := hb'.len
      omega
theorem tail_blk {T s : Nat} {U : List FV} (hlo : Lo (2 * s) T U) (hhi : Hi s (2 * T) U) (h : U.length ≤ T * (2 * s) + s) : Hi (2 * s) 0 U := by
  obtain ⟨d1, d2, d3, d4⟩ := dbl T s
  refine lo_hi (p := T + 1) (fun t ht => ?_) (hi_out (by omega))
  by_cases hp : t < T
  · exact hlo t hp
  · have : t = T := by omega
    subst this
    have := hhi (2 * t) (Nat.le_refl _)
    rw [← d1, d3] at this
    rw [seg_cut (j' := 2 * t * s + s) (by omega) (by omega)]
    exact this

def StI (g n cap : Nat) (V : List FV) (w0 wr : World) (a b : Nat) : Prop := ∃ T U, a = T * 20 ∧ b = (T + 1) * 20 ∧ a ≤ n ∧ Mid g n cap V w0 wr U ∧ Lo 20 T U
def StO (g n cap : Nat) (V : List FV) (w0 wr : World) (s : Nat) : Prop := ∃ U, 0 < s ∧ Mid g n cap V w0 wr U ∧ Hi s 0 U
def StM (g n cap : Nat) (V : List FV) (w0 wr : World) (s a b : Nat) : Prop := ∃ T U, a = T * (2 * s) ∧ b = (T + 1) * (2 * s) ∧ a ≤ n ∧ Mid g n cap V w0 wr U ∧ Lo (2 * s) T U ∧ Hi s (2 * T) U
set_option maxRecDepth 100000 in
set_option maxHeartbeats 4000000 in
theorem stab_any (g n cap : Nat) (V : List FV) (w : World) (h : BR g n cap w V) (h63 : n ≤ 1000000) (h0 : 0 < n) :
    Calls Tryd.prog 51 #[.slice (some ⟨g, 0, none⟩) n cap, .int .i64 n, cmpV] w fun e w' => e = .returned (.tuple #[]) ∧ ∃ U, StableOf FV.key V U ∧ BR g n cap w' U ∧ FrG g w w' := by
  have HB := Lib.hid h; have HN := Lib.hid (And.intro h63 h0)
  have i1 : (n : Int) ≤ 1000000 := by omega
  clear h h63 h0
  unfold cmpV
  go_enter Tryd.func51, Tryd.ntmps51
  go_wp2_with fail
  go_loopw [7, 8] (fun v7 v8 wr => ∃ a b : Nat, v7 = .int .i64 a ∧ v8 = .int .i64 b ∧ Hid (StI g n cap V w wr a b)) (fun _ v8 _ => n + 20 - (intOf v8).toNat)
  case atStart => exact ⟨0, 20, rfl, rfl, 0, V, rfl, rfl, Nat.zero_le _, ⟨HB.out, fun _ => rfl, Fr.refl _ _⟩, fun t ht => absurd ht (Nat.not_lt_zero _)⟩
  case round =>
    obtain ⟨a, b, rfl, rfl, HI⟩ := hrel
    obtain ⟨T, U, ha, hb, han, hM, hlo⟩ := HI.out
    have HA := Lib.hid ha; have HBB := Lib.hid hb; have HAN := Lib.hid han; have HM := Lib.hid hM; have HLO := Lib.hid hlo
    have q1 : (a : Int) ≤ n := by omega
    have q2 : (b : Int) ≤ 1000020 := by omega
    clear HI ha hb han hM hlo
    by_cases hbn : (b : Int) ≤ n
    · have hbn2 : decide ((b : Int) ≤ n) = true := decide_eq_true hbn
      go_wp2_with fail
      refine (ins_blk HM.out HN.out.1 HA.out (by have := HA.out; have := HBB.out; omega) (by omega) (.inl HBB.out) HLO.out).mono ?_
      rintro e w1 ⟨rfl, U', hM', hlo'⟩
      have HI1 : Hid (StI g n cap V w w1 b (b + 20)) := (⟨T + 1, U', HBB.out, by have := HBB.out; omega, by omega, hM', hlo'⟩ : StI g n cap V w w1 b (b + 20))
      clear hM' hlo'
      go_wp2_with fail
      go_roundw
      case rel => exact ⟨b, b + 20, rfl, by go_num, HI1.out⟩
      case measure => simp [intOf]; omega
    · have hbn2 : decide ((b : Int) ≤ n) = false := decide_eq_false hbn
      go_wp2_with fail
      refine (ins_blk (b := n) HM.out HN.out.1 HA.out HAN.out (Nat.le_refl _) (.inr ⟨rfl, by have := HBB.out; omega⟩) HLO.out).mono ?_
      rintro e w1 ⟨rfl, U', hM', hlo'⟩
      have HO : Hid (StO g n cap V w w1 20) := (⟨U', by decide, hM', lo_hi hlo' (hi_out (by have := hM'.1.len; have := HBB.out; omega))⟩ : StO g n cap V w w1 20)
      clear hM' hlo'
      clear HM HLO HA HBB HAN q1 q2 hbn hbn2
      go_wp2_with fail
      go_loopw [6, 7, 8, 9] (fun v6 _ _ _ wr => ∃ s : Nat, v6 = .int .i64 s ∧ Hid (s ≤ 2000000) ∧ Hid (StO g n cap V w wr s)) (fun v6 _ _ _ _ => n - (intOf v6).toNat)
      case atStart => exact ⟨20, rfl, (by decide : 20 ≤ 2000000), HO.out⟩
      case round =>
        obtain ⟨s, rfl, HS, HO2⟩ := hrel
        clear HO
        have q1 : (s : Int) ≤ 2000000 := by have := HS.out; omega
        obtain ⟨U0, hs0, hM0, hhi0⟩ := HO2.out
        have HS0 := Lib.hid hs0; have HM0 := Lib.hid hM0; have HHI0 := Lib.hid hhi0
        clear HO2 hs0 hM0 hhi0
        by_cases hsn : (s : Int) < n
        · have HM1 : Hid (StM g n cap V w wr s 0 (2 * s)) := (⟨0, U0, by omega, by omega, Nat.zero_le _, HM0.out, fun t ht => absurd ht (Nat.not_lt_zero _), HHI0.out⟩ : StM g n cap V w wr s 0 (2 * s))
          go_wp2_with fail
          go_loopw [7, 8] (fun v7 v8 wr => ∃ a b : Nat, v7 = .int .i64 a ∧ v8 = .int .i64 b ∧ Hid (StM g n cap V w wr s a b)) (fun _ v8 _ => n + 2 * s - (intOf v8).toNat)
          case atStart => exact ⟨0, 2 * s, rfl, by go_num, HM1.out⟩
          case round =>
            obtain ⟨a, b, rfl, rfl, HI⟩ := hrel
            clear HM1 HM0 HHI0
            obtain ⟨T, U, ha, hb, han, hM, hlo, hhi⟩ := HI.out
            have hab : b = a + 2 * s := by rw [ha, hb, Nat.add_mul, Nat.one_mul]
            have q2 : (a : Int) ≤ n := by omega
            have q4 : (s : Int) ≤ 1000000 := by omega
            have q3 : (b : Int) ≤ 3000000 := by omega
            have q5 : (a : Int) + s ≤ 2000000 := by omega
            have HA := Lib.hid ha; have HBB := Lib.hid hb; have HM := Lib.hid hM; have HLO := Lib.hid hlo; have HHI := Lib.hid hhi; have HAB := Lib.hid hab
            clear HI ha hb han hM hlo hhi hab
            by_cases hbn : (b : Int) ≤ n
            · have hbn2 : decide ((b : Int) ≤ n) = true := decide_eq_true hbn
              have hm1 : Hid ((a : Int) + s = (a + s : Nat)) := (by omega : (a : Int) + s = (a + s : Nat))
              go_wp2_with fail
              rw [hm1.out]
              refine (sym_blk HM.out HN.out.1 HS0.out HA.out rfl (by have := HAB.out; have := HS0.out; omega) (by omega) (.inl HBB.out) HLO.out HHI.out).mono ?_
              rintro e w1 ⟨rfl, U', hM', hlo', hhi'⟩
              have HI1 : Hid (StM g n cap V w w1 s b (b + 2 * s)) := (⟨T + 1, U', HBB.out, by rw [HBB.out, Nat.add_mul (T + 1), Nat.one_mul], by omega, hM', hlo', hhi'⟩ : StM g n cap V w w1 s b (b + 2 * s))
              clear hM' hlo' hhi'
              go_wp2_with fail
              go_roundw
              case rel => exact ⟨b, b + 2 * s, rfl, by go_num, HI1.out⟩
              case measure => have := HS0.out; simp [intOf]; omega
            · have hbn2 : decide ((b : Int) ≤ n) = false := decide_eq_false hbn
              by_cases hmn : (a : Int) + s < n
              · have hm1 : Hid ((a : Int) + s = (a + s : Nat)) := (by omega : (a : Int) + s = (a + s : Nat))
                go_wp2_with fail
                rw [hm1.out]
                refine (sym_blk (b := n) HM.out HN.out.1 HS0.out HA.out rfl (by omega) (Nat.le_refl _) (.inr ⟨rfl, by have := HBB.out; omega⟩) HLO.out HHI.out).mono ?_
                rintro e w1 ⟨rfl, U', hM', hlo', hhi'⟩
                have HO1 : Hid (StO g n cap V w w1 (s * 2)) := (⟨U', by have := HS0.out; omega, hM', by rw [Nat.mul_comm]; exact lo_hi hlo' (hi_out (by have := hM'.1.len; have := HBB.out; omega))⟩ : StO g n cap V w w1 (s * 2))
                clear hM' hlo' hhi'
                go_wp2_with fail
                go_roundw
                case rel => exact ⟨s * 2, by go_num, (by omega : s * 2 ≤ 2000000), HO1.out⟩
                case measure => have := HS0.out; simp [intOf]; omega
              · have HO1 : Hid (StO g n cap V w wr (s * 2)) := (⟨U, by have := HS0.out; omega, HM.out, by rw [Nat.mul_comm]; exact tail_blk HLO.out HHI.out (by have := HM.out.1.len; have := HA.out; omega)⟩ : StO g n cap V w wr (s * 2))
                go_wp2_with fail
                go_roundw
                case rel => exact ⟨s * 2, by go_num, (by omega : s * 2 ≤ 2000000), HO1.out⟩
                case measure => have := HS0.out; simp [intOf]; omega
        · go_wp2_with fail
          go_end0
          have hl := HM0.out.1.len
          exact ⟨rfl, U0, ⟨hi_whole HHI0.out (by omega), HM0.out.2.1⟩, HM0.out.1, HM0.out.2.2⟩

theorem ins_zero (v : Value) (fv : Value) (w : World) : Calls Tryd.prog 57 #[v, .int .i64 0, .int .i64 0, fv] w fun e w' => e = .returned (.tuple #[]) ∧ w' = w := by
  go_enter Tryd.func57, Tryd.ntmps57
  go_wp2
  refine wp_loop_rounds 1 ?_
  rw [rounds_succ]
  go_wp2
  go_end0
  exact ⟨rfl, rfl⟩
theorem stable_zero (v : Value) (fv : Value) (w : World) : Calls Tryd.prog 51 #[v, .int .i64 0, fv] w fun e w' => e = .returned (.tuple #[]) ∧ w' = w := by
  go_enter Tryd.func51, Tryd.ntmps51
  go_wp2
  refine wp_loop_rounds 1 ?_
  rw [rounds_succ]
  go_wp2_with (go_at_call 57; refine (ins_zero _ _ _).mono ?_; rintro e w1 ⟨rfl, rfl⟩)
  refine wp_loop_rounds 1 ?_
  rw [rounds_succ]
  go_wp2
  go_end0
  exact ⟨rfl, rfl⟩
theorem stableCalls_zero : StableCalls 0 := by
  intro W vs v ho
  obtain ⟨A, c, rfl⟩ := own_shape ho
  have HO := Lib.hid ho; clear ho
  go_enter Tryd.func34, Tryd.ntmps34
  go_wp2_with (go_at_call 51; refine (stable_zero _ _ _).mono ?_; rintro e w1 ⟨rfl, rfl⟩)
  go_end0
  have hl := HO.out.1
  rw [length_flat] at hl
  exact ⟨rfl, vs, stable_short _ _ (by omega), HO.out, Fr.refl _ _⟩
theorem stable_calls (n : Nat) (h63 : n ≤ 1000000) : StableCalls n := by
  rcases Nat.eq_zero_or_pos n with h0 | h0
  · subst h0; exact stableCalls_zero
  · intro W vs v ho
    obtain ⟨g, cap, rfl⟩ : ∃ g cap, v = .slice (some ⟨g, 0, none⟩) n cap := by
      rcases ho.2 with ⟨rfl, h2⟩ | ⟨g, cap, cur, rfl, _⟩
      · omega
      · exact ⟨g, cap, rfl⟩
    have hb : BR g n cap W vs := ho
    have HB := Lib.hid hb; have HN := Lib.hid (And.intro h63 h0)
    clear ho hb h63 h0
    go_enter Tryd.func34, Tryd.ntmps34
    go_wp2_with (go_at_call 51; refine (stab_any g n cap vs W HB.out HN.out.1 HN.out.2).mono ?_; rintro e w1 ⟨rfl, U, hU, hB1, hF1⟩)
    go_end0
    exact ⟨rfl, U, hU, hB1, hF1.mono (fun k _ hk => by subst hk; rfl)⟩
end Go.Proofs.YtlgonkopojancaaDoor
