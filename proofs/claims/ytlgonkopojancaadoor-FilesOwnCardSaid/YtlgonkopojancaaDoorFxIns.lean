/- symMerge whole; the insertion sort of a block is stable. -/
import Derived.Test.YtlgonkopojancaaDoorFxSymC
import Derived.Test.YtlgonkopojancaaDoorFxShelf
namespace Go.Proofs.YtlgonkopojancaaDoor
open Go.RowKit Go.Sort

theorem sym_any (g n cap : Nat) (h63 : n ≤ 1000000) : ∀ N, SymOk g n cap N := by
  intro N
  induction N with
  | zero => intro a m b L X Y R w h hX hY ha hm hb hsx hsy hlt; omega
  | succ N ih =>
    intro a m b L X Y R w h hX hY ha hm hb hsx hsy hlt
    by_cases h1 : X.length = 1
    · obtain ⟨x, rfl⟩ : ∃ x, X = [x] := by
        match X, h1 with
        | [x], _ => exact ⟨x, rfl⟩
      exact sym_one g n cap a m b x L Y R w h h63 hY ha (by simpa using hm) hb hsy
    · by_cases h2 : Y.length = 1
      · obtain ⟨y, rfl⟩ : ∃ y, Y = [y] := by
          match Y, h2 with
          | [y], _ => exact ⟨y, rfl⟩
        exact sym_last g n cap a m b y L X R w h h63 (by omega) ha hm (by simpa using hb) hsx
      · refine sym_two g n cap a m b L X Y R w h h63 (by omega) (by omega) ha hm hb hsx hsy ?_
        intro a' m' b' L' X' Y' R' w' g1 g2 g3 g4 g5 g6 g7 g8 g9
        exact ih a' m' b' L' X' Y' R' w' g1 g2 g3 g4 g5 g6 g7 g8 (by omega)

/-- the closure's answer -/
def cfV (u v : FV) : Int := cmpI u.f.name v.f.name
theorem ltOf_lt (u v : FV) : ltOf cfV u v = lt u v := by
  unfold ltOf cfV lt
  rcases h : lessB u.f.name v.f.name with _ | _
  · have := cmp_pos h
    exact decide_eq_false (by omega)
  · rw [cmp_neg h]; rfl
theorem arr_get {d : Array FV} {A C : List FV} {x : FV} {i : Nat} (h : d.toList = A ++ x :: C) (hi : A.length = i) : d[i]! = x := by
  have h1 : d.toList[i]? = some x := by
    rw [h, List.getElem?_append_right (by omega), ← hi, Nat.sub_self]
    rfl
  have h2 : d[i]? = some x := by simpa using h1
  simp [Array.getElem!_eq_getD, Array.getD_eq_getD_getElem?, h2]
theorem swp_toList {d : Array FV} {A C : List FV} {x y : FV} {i : Nat} (h : d.toList = A ++ x :: y :: C) (hi : A.length = i) : (swp d (i + 1) i).toList = A ++ y :: x :: C := by
  have e1 : d[i]! = x := arr_get h hi
  have e2 : d[i + 1]! = y := arr_get (A := A ++ [x]) (C := C) (by rw [h]; simp) (by simp [hi])
  unfold swp
  rw [e1, e2, Array.toList_setIfInBounds, Array.toList_setIfInBounds, h]
  have e3 : (A ++ x :: y :: C).set (i + 1) x = A ++ x :: x :: C := by
    rw [List.set_append_right _ _ (by omega), show i + 1 - A.length = 1 by omega]
    rfl
  rw [e3, set_app hi]
theorem inner_toList (a : Nat) (L R : List FV) (x : FV) (ha : L.length = a) : ∀ (k : Nat) (P Q : List FV) (d : Array FV), P.length = k → d.toList = L ++ P ++ x :: (Q ++ R) →
    ∃ P1 P2, P = P1 ++ P2 ∧ (insInner (ltOf cfV) a (a + k) d).toList = L ++ P1 ++ x :: (P2 ++ Q ++ R) ∧ (P1 = [] ∨ ∃ P' y, P1 = P' ++ [y] ∧ lt x y = false) ∧ (∀ y ∈ P2, lt x y = true)
  | 0, P, Q, d, hp, hd => by
    have : P = [] := List.eq_nil_of_length_eq_zero hp
    subst this
    refine ⟨[], [], rfl, ?_, .inl rfl, fun y hy => by simp at hy⟩
    rw [Nat.add_zero]
    have hstop : insInner (ltOf cfV) a a d = d := by
      cases a with
      | zero => rw [insInner]
      | succ a => rw [insInner]; simp
    rw [hstop, hd]
    simp
  | k + 1, P, Q, d, hp, hd => by
    obtain ⟨P0, y, rfl⟩ : ∃ P' y, P = P' ++ [y] := ⟨P.dropLast, P.getLast (by intro e; rw [e] at hp; cases hp), (List.dropLast_concat_getLast _).symm⟩
    have hp0 : P0.length = k := by simpa using hp
    have hd2 : d.toList = (L ++ P0) ++ y :: x :: (Q ++ R) := by rw [hd]; simp
    have e1 : d[a + k]! = y := arr_get hd2 (by simp; omega)
    have e2 : d[a + k + 1]! = x := arr_get (A := L ++ P0 ++ [y]) (C := Q ++ R) (by rw [hd2]; simp) (by simp; omega)
    rw [show a + (k + 1) = a + k + 1 by omega, insInner, e1, e2, ltOf_lt]
    have hgt : decide (a + k + 1 > a) = true := decide_eq_true (by omega)
    rcases hl : lt x y with _ | _
    · rw [hgt]
      simp only [Bool.and_false, Bool.false_eq_true, if_false]
      refine ⟨P0 ++ [y], [], by simp, ?_, .inr ⟨P0, y, rfl, hl⟩, fun y hy => by simp at hy⟩
      rw [hd]
      simp
    · rw [hgt]
      simp only [Bool.and_true, if_true]
      have hs := swp_toList (d := d) (A := L ++ P0) (i := a + k) hd2 (by simp; omega)
      obtain ⟨P1, P2, h1, h2, h3, h4⟩ := inner_toList a L R x ha k P0 (y :: Q) (swp d (a + k + 1) (a + k)) hp0 (by rw [hs]; simp)
      refine ⟨P1, P2 ++ [y], by rw [h1]; simp, ?_, h3, fun z hz => ?_⟩
      · rw [h2]; simp
      · rcases List.mem_append.1 hz with hz | hz
        · exact h4 z hz
        · simp at hz; subst hz; exact hl
theorem ins_step {X0 Z P1 P2 : List FV} {x : FV} (hz : StableOf FV.key X0 Z) (he : Z = P1 ++ P2) (h1 : P1 = [] ∨ ∃ P' y, P1 = P' ++ [y] ∧ lt x y = false) (h2 : ∀ y ∈ P2, lt x y = true) : StableOf FV.key (X0 ++ [x]) (P1 ++ x :: P2) := by
  have hs : Srt FV.key (P1 ++ P2) := he ▸ hz.1
  have hx : Srt FV.key [x] := List.pairwise_singleton _ _
  have hleq : Leq FV.key P1 [x] := by
    refine leq_of FV.key (srt_left FV.key hs) hx ?_
    rcases h1 with h1 | ⟨P', y, rfl, hl⟩
    · exact .inl h1
    · exact .inr (.inr ⟨y, x, P', [], rfl, rfl, hl⟩)
  have hlss : Lss FV.key [x] P2 := fun u hu v hv => by
    simp at hu
    subst hu
    exact h2 v hv
  have a1 : StableOf FV.key (P1 ++ [x]) (P1 ++ [x]) := stable_srt FV.key (srt_app FV.key (srt_left FV.key hs) hx hleq)
  have a2 : StableOf FV.key (P2 ++ []) P2 := by rw [List.append_nil]; exact stable_srt FV.key (srt_right FV.key hs)
  have := stable_parts FV.key (X1 := P1) (X2 := P2) (Y1 := [x]) (Y2 := []) hs hx hlss (fun _ _ _ h => by simp at h) a1 a2
  refine ⟨by simpa using this.1, fun k => ?_⟩
  have h3 := this.2 k
  simp only [List.append_assoc, List.cons_append, List.nil_append] at h3
  rw [h3, ← List.append_assoc, ← he, List.filter_append, hz.2 k, List.filter_append]
theorem outer_toList (a b : Nat) (L : List FV) (ha : L.length = a) : ∀ (k : Nat) (X0 Z T R : List FV) (d : Array FV), T.length = k → StableOf FV.key X0 Z → Z.length = X0.length → d.toList = L ++ Z ++ T ++ R → a + Z.length + k = b →
    ∃ Z', StableOf FV.key (X0 ++ T) Z' ∧ Z'.length = (X0 ++ T).length ∧ (insOuter (ltOf cfV) a b (a + Z.length) d).toList = L ++ Z' ++ R
  | 0, X0, Z, T, R, d, hk, hz, hzl, hd, hb => by
    have : T = [] := List.eq_nil_of_length_eq_zero hk
    subst this
    rw [insOuter, if_neg (by omega)]
    exact ⟨Z, by rw [List.append_nil]; exact hz, by rw [List.append_nil]; exact hzl, by rw [hd]; simp⟩
  | k + 1, X0, Z, T, R, d, hk, hz, hzl, hd, hb => by
    obtain ⟨x, T', rfl⟩ : ∃ x T', T = x :: T' := by
      cases T with
      | nil => cases hk
      | cons x T' => exact ⟨x, T', rfl⟩
    have hk' : T'.length = k := by simpa using hk
    rw [insOuter, if_pos (by omega)]
    obtain ⟨P1, P2, h1, h2, h3, h4⟩ := inner_toList a L (T' ++ R) x ha Z.length Z [] d rfl (by rw [hd]; simp)
    have hst := ins_step hz h1 h3 h4
    have hl : (P1 ++ x :: P2).length = Z.length + 1 := by rw [h1]; simp; omega
    have := outer_toList a b L ha k (X0 ++ [x]) (P1 ++ x :: P2) T' R (insInner (ltOf cfV) a (a + Z.length) d) hk' hst (by rw [hl]; simp [hzl]) (by rw [h2]; simp) (by rw [hl]; omega)
    rw [hl] at this
    obtain ⟨Z', g1, g2, g3⟩ := this
    refine ⟨Z', by simpa using g1, by simpa using g2, ?_⟩
    rw [← g3]
    rfl
theorem insertion_toList {d : Array FV} {L X R : List FV} {a b : Nat} (ha : L.length = a) (hb : a + X.length = b) (hd : d.toList = L ++ X ++ R) : ∃ Z, StableOf FV.key X Z ∧ Z.length = X.length ∧ (insertionSort (ltOf cfV) d a b).toList = L ++ Z ++ R := by
  unfold insertionSort
  cases X with
  | nil =>
    rw [insOuter, if_neg (by simp at hb; omega)]
    exact ⟨[], stable_nil FV.key, rfl, hd⟩
  | cons x T =>
    have := outer_toList a b L ha T.length [x] [x] T R d rfl (stable_short _ _ (by simp)) rfl (by rw [hd]; simp) (by simp at hb ⊢; omega)
    simpa using this
end Go.Proofs.YtlgonkopojancaaDoor
