/- The walk of rotate. -/
import Derived.Test.YtlgonkopojancaaDoorFxSwap
namespace Go.Proofs.YtlgonkopojancaaDoor
open Go.RowKit

theorem getD_app {A C : List FV} {x : FV} {i : Nat} (hi : A.length = i) : (A ++ x :: C).getD i default = x := by
  subst hi
  rw [List.getD_eq_getElem?_getD, List.getElem?_append_right (Nat.le_refl _), Nat.sub_self]
  rfl
theorem set_app {A C : List FV} {x y : FV} {i : Nat} (hi : A.length = i) : (A ++ x :: C).set i y = A ++ y :: C := by
  subst hi
  rw [List.set_append_right _ _ (Nat.le_refl _), Nat.sub_self]
  rfl
theorem swl_app {A B C : List FV} {x y : FV} {i j : Nat} (hi : A.length = i) (hj : i + 1 + B.length = j) : swl (A ++ x :: (B ++ y :: C)) i j = A ++ y :: (B ++ x :: C) := by
  have e : ∀ z, A ++ z :: (B ++ y :: C) = (A ++ z :: B) ++ y :: C := fun z => by simp
  have hl : ∀ z, (A ++ z :: B).length = j := fun z => by simp; omega
  unfold swl
  rw [getD_app hi]
  rw [e x, getD_app (hl x), ← e x, set_app hi, e y, set_app (hl y)]
  simp
theorem swr_app : ∀ (k : Nat) (L P1 Q1 M P2 Q2 R : List FV) (a b : Nat), L.length = a → P1.length = k → P2.length = k → Q1.length = Q2.length → a + k + Q1.length + M.length = b →
    swr (L ++ (P1 ++ Q1) ++ M ++ (P2 ++ Q2) ++ R) a b k = L ++ (P2 ++ Q1) ++ M ++ (P1 ++ Q2) ++ R
  | 0, L, P1, Q1, M, P2, Q2, R, a, b, hl, h1, h2, hq, hb => by
    have e1 : P1 = [] := List.eq_nil_of_length_eq_zero h1
    have e2 : P2 = [] := List.eq_nil_of_length_eq_zero h2
    subst e1; subst e2
    rfl
  | k + 1, L, P1, Q1, M, P2, Q2, R, a, b, hl, h1, h2, hq, hb => by
    obtain ⟨P1', x, rfl⟩ : ∃ P x, P1 = P ++ [x] := ⟨P1.dropLast, P1.getLast (by intro e; rw [e] at h1; cases h1), (List.dropLast_concat_getLast _).symm⟩
    obtain ⟨P2', y, rfl⟩ : ∃ P x, P2 = P ++ [x] := ⟨P2.dropLast, P2.getLast (by intro e; rw [e] at h2; cases h2), (List.dropLast_concat_getLast _).symm⟩
    have l1 : P1'.length = k := by simpa using h1
    have l2 : P2'.length = k := by simpa using h2
    rw [swr]
    have e1 : L ++ (P1' ++ [x] ++ Q1) ++ M ++ (P2' ++ [y] ++ Q2) ++ R = L ++ (P1' ++ (x :: Q1)) ++ M ++ (P2' ++ (y :: Q2)) ++ R := by simp
    rw [e1, swr_app k L P1' (x :: Q1) M P2' (y :: Q2) R a b hl l1 l2 (by simp [hq]) (by simp only [List.length_cons]; omega)]
    have e2 : L ++ (P2' ++ (x :: Q1)) ++ M ++ (P1' ++ (y :: Q2)) ++ R = (L ++ P2') ++ x :: ((Q1 ++ M ++ P1') ++ y :: (Q2 ++ R)) := by simp
    rw [e2, swl_app (by simp [hl, l2]) (by simp only [List.length_append]; omega)]
    simp
/-- two ranges of one length change places -/
theorem swr_ranges {L S1 M S2 R : List FV} {a b k : Nat} (hl : L.length = a) (h1 : S1.length = k) (h2 : S2.length = k) (hb : a + k + M.length = b) : swr (L ++ S1 ++ M ++ S2 ++ R) a b k = L ++ S2 ++ M ++ S1 ++ R := by
  have := swr_app k L S1 [] M S2 [] R a b hl h1 h2 rfl (by simp; omega)
  simpa using this
theorem swap_told (g n cap : Nat) (xa xb xk : Int) (fv : Value) (L S1 M S2 R : List FV) (w : World) (h : BR g n cap w (L ++ S1 ++ M ++ S2 ++ R)) (h63 : n ≤ 1000000) (hk : S1.length = S2.length) (ha : xa = (L.length : Int)) (hb : xb = ((L.length + S1.length + M.length : Nat) : Int)) (hxk : xk = (S1.length : Int)) :
    Calls Tryd.prog 67 #[.slice (some ⟨g, 0, none⟩) n cap, .int .i64 xa, .int .i64 xb, .int .i64 xk, fv] w fun e w' => e = .returned (.tuple #[]) ∧ BR g n cap w' (L ++ S2 ++ M ++ S1 ++ R) ∧ FrG g w w' := by
  subst ha; subst hb; subst hxk
  have hl := h.len
  simp only [List.length_append] at hl
  refine (swap_any g n cap L.length (L.length + S1.length + M.length) S1.length fv _ w h (by omega) (by omega) h63).mono ?_
  rintro e w' ⟨rfl, h1, h2⟩
  rw [swr_ranges rfl rfl hk.symm rfl] at h1
  exact ⟨rfl, h1, h2⟩

/-- where a rotation stands: what is done lies before and behind -/
def RotI (g n cap : Nat) (w0 wr : World) (L X Y R : List FV) (m i j : Nat) : Prop :=
  ∃ L' X' Y' R' : List FV, BR g n cap wr (L' ++ X' ++ Y' ++ R') ∧ X'.length = i ∧ Y'.length = j ∧ L'.length + i = m ∧ L ++ Y ++ X ++ R = L' ++ Y' ++ X' ++ R' ∧ FrG g w0 wr
set_option maxRecDepth 20000 in
set_option maxHeartbeats 4000000 in
theorem rotate_any (g n cap a m b : Nat) (fv : Value) (L X Y R : List FV) (w : World) (h : BR g n cap w (L ++ X ++ Y ++ R)) (h63 : n ≤ 1000000) (hX : 0 < X.length) (hY : 0 < Y.length) (ha : L.length = a) (hm : a + X.length = m) (hb : m + Y.length = b) :
    Calls Tryd.prog 62 #[.slice (some ⟨g, 0, none⟩) n cap, .int .i64 a, .int .i64 m, .int .i64 b, fv] w fun e w' => e = .returned (.tuple #[]) ∧ BR g n cap w' (L ++ Y ++ X ++ R) ∧ FrG g w w' := by
  have hl := h.len
  simp only [List.length_append] at hl
  have HB := Lib.hid h; have HL := Lib.hid (And.intro hl (And.intro h63 (And.intro hX (And.intro hY (And.intro ha (And.intro hm hb))))))
  have i1 : (a : Int) < m := by omega
  have i2 : (m : Int) < b := by omega
  have i3 : (b : Int) ≤ 1000000 := by omega
  clear h hl h63 hX hY ha hm hb
  go_enter Tryd.func62, Tryd.ntmps62
  go_wp2_with fail
  go_loopw [10, 11] (fun v10 v11 wr => ∃ i j : Nat, v10 = .int .i64 i ∧ v11 = .int .i64 j ∧ Hid (0 < i ∧ 0 < j ∧ i ≤ m ∧ m + j ≤ n) ∧ Hid (RotI g n cap w wr L X Y R m i j)) (fun v10 v11 _ => (intOf v10).toNat + (intOf v11).toNat)
  case atStart =>
    obtain ⟨h1, h2, h3, h4, h5, h6, h7⟩ := HL.out
    refine ⟨X.length, Y.length, by congr 1; omega, by congr 1; omega, ⟨h3, h4, by omega, by omega⟩, L, X, Y, R, HB.out, rfl, rfl, by omega, rfl, Fr.refl _ _⟩
  case round =>
    obtain ⟨i, j, rfl, rfl, HI, HR⟩ := hrel
    obtain ⟨L', X', Y', R', hbr, hxi, hyj, hlm, heq, hf⟩ := HR.out
    have HBR := Lib.hid hbr; have HXY := Lib.hid (And.intro hxi (And.intro hyj hlm)); have HEQ := Lib.hid heq; have HF := Lib.hid hf
    have j1 : (i : Int) ≤ m := by have := HI.out; omega
    have j2 : (j : Int) ≤ 1000000 := by have := HI.out; have := HL.out; omega
    clear hbr hxi hyj hlm heq hf HR
    by_cases hij : i = j
    · have hne : ((i : Int) != j) = false := by rw [hij]; simp
      have hne2 : ((i : Int) == j) = true := by rw [hij]; simp
      have HIJ := Lib.hid hij; clear hij
      go_wp2_with fail
      have hb2 : BR g n cap wr (L' ++ X' ++ [] ++ Y' ++ R') := by simpa using HBR.out
      refine (swap_told g n cap _ _ _ fv L' X' [] Y' R' wr hb2 HL.out.2.1 (by have := HXY.out; have := HIJ.out; omega) (by have := HXY.out; omega) (by have := HXY.out; simp; omega) (by have := HXY.out; omega)).mono ?_
      rintro e w1 ⟨rfl, hb1, hf1⟩
      have HB1 : Hid (BR g n cap w1 (L ++ Y ++ X ++ R)) := (by rw [HEQ.out]; simpa using hb1 : BR g n cap w1 (L ++ Y ++ X ++ R))
      have HF1 := Lib.hid (HF.out.trans' hf1)
      clear hb2 hb1 hf1
      go_wp2_with fail
      go_end0
      exact ⟨rfl, HB1.out, HF1.out⟩
    · have hne : ((i : Int) != j) = true := by rw [bne_iff_ne]; omega
      have hne2 : ((i : Int) == j) = false := by rw [beq_eq_false_iff_ne]; omega
      by_cases hgt : j < i
      · have hgt2 : (j : Int) < i := by omega
        clear hij hgt
        go_wp2_with fail
        have hb2 : BR g n cap wr (L' ++ X'.take j ++ X'.drop j ++ Y' ++ R') := by
          have := HBR.out
          rw [← List.take_append_drop j X'] at this
          simpa using this
        refine (swap_told g n cap _ _ _ fv L' (X'.take j) (X'.drop j) Y' R' wr hb2 HL.out.2.1 (by have := HXY.out; rw [List.length_take]; omega) (by have := HXY.out; omega) (by have := HXY.out; rw [List.length_take, List.length_drop]; omega) (by have := HXY.out; rw [List.length_take]; omega)).mono ?_
        rintro e w1 ⟨rfl, hb1, hf1⟩
        have HR1 : Hid (RotI g n cap w w1 L X Y R m (i - j) j) := (by
          obtain ⟨h1, h2, h3⟩ := HXY.out
          refine ⟨L' ++ Y', X'.drop j, X'.take j, R', hb1, by rw [List.length_drop, h1], by rw [List.length_take]; omega, by rw [List.length_append]; omega, ?_, HF.out.trans' hf1⟩
          rw [HEQ.out]
          conv => lhs; rw [← List.take_append_drop j X']
          simp : RotI g n cap w w1 L X Y R m (i - j) j)
        clear hb2 hb1 hf1
        go_wp2_with fail
        go_roundw
        case rel => exact ⟨i - j, j, by congr 1; omega, rfl, (by have := HI.out; omega : 0 < i - j ∧ 0 < j ∧ i - j ≤ m ∧ m + j ≤ n), HR1.out⟩
        case measure => have := HI.out; simp [intOf]; omega
      · have hgt2 : ¬ (j : Int) < i := by omega
        have hlt : (i : Int) < j := by omega
        clear hij hgt
        go_wp2_with fail
        have hb2 : BR g n cap wr (L' ++ X' ++ Y'.take (j - i) ++ Y'.drop (j - i) ++ R') := by
          have := HBR.out
          rw [← List.take_append_drop (j - i) Y'] at this
          simpa using this
        refine (swap_told g n cap _ _ _ fv L' X' (Y'.take (j - i)) (Y'.drop (j - i)) R' wr hb2 HL.out.2.1 (by have := HXY.out; rw [List.length_drop]; omega) (by have := HXY.out; omega) (by have := HXY.out; rw [List.length_take]; omega) (by have := HXY.out; omega)).mono ?_
        rintro e w1 ⟨rfl, hb1, hf1⟩
        have HR1 : Hid (RotI g n cap w w1 L X Y R m i (j - i)) := (by
          obtain ⟨h1, h2, h3⟩ := HXY.out
          refine ⟨L', Y'.drop (j - i), Y'.take (j - i), X' ++ R', by simpa using hb1, by rw [List.length_drop]; omega, by rw [List.length_take]; omega, h3, ?_, HF.out.trans' hf1⟩
          rw [HEQ.out]
          conv => lhs; rw [← List.take_append_drop (j - i) Y']
          simp : RotI g n cap w w1 L X Y R m i (j - i))
        clear hb2 hb1 hf1
        go_wp2_with fail
        go_roundw
        case rel => exact ⟨i, j - i, rfl, by congr 1; omega, (by have := HI.out; omega : 0 < i ∧ 0 < j - i ∧ i ≤ m ∧ m + (j - i) ≤ n), HR1.out⟩
        case measure => have := HI.out; simp [intOf]; omega
end Go.Proofs.YtlgonkopojancaaDoor
