/- Blocks that stand sorted. -/
import Derived.Test.YtlgonkopojancaaDoorFxInsW
namespace Go.Proofs.YtlgonkopojancaaDoor
open Go.RowKit

def FilEq (V U : List FV) : Prop := ∀ k, U.filter (fun x => decide (FV.key x = k)) = V.filter (fun x => decide (FV.key x = k))
theorem FilEq.step {V U L X Z R : List FV} (h : FilEq V U) (hU : U = L ++ X ++ R) (hz : StableOf FV.key X Z) : FilEq V (L ++ Z ++ R) := fun k => by
  rw [← h k, hU]
  simp only [List.filter_append, hz.2 k]
theorem seg_low {L X R : List FV} {i j : Nat} (h : j ≤ L.length) : seg (L ++ X ++ R) i j = seg L i j := by
  unfold seg
  by_cases hi : i ≤ L.length
  · rw [List.append_assoc, List.drop_append_of_le_length hi, List.take_append_of_le_length (by rw [List.length_drop]; omega)]
  · rw [show j - i = 0 by omega]; simp
theorem seg_high {L X R : List FV} {i j : Nat} (h : L.length + X.length ≤ i) : seg (L ++ X ++ R) i j = seg R (i - (L.length + X.length)) (j - (L.length + X.length)) := by
  unfold seg
  have hl : (L ++ X).length = L.length + X.length := List.length_append
  rw [List.drop_append, List.drop_of_length_le (by omega), List.nil_append, hl]
  congr 1
  omega
theorem seg_mid {L X R : List FV} {i j : Nat} (hi : L.length = i) (hj : i + X.length = j) : seg (L ++ X ++ R) i j = X := by
  subst hi; subst hj
  unfold seg
  rw [List.append_assoc, List.drop_left, Nat.add_sub_cancel_left, List.take_left]
theorem seg_end {L X : List FV} {i j : Nat} (hi : L.length = i) (hj : i + X.length ≤ j) : seg (L ++ X) i j = X := by
  subst hi
  unfold seg
  rw [List.drop_left, List.take_of_length_le (by omega)]
theorem seg_out {U : List FV} {i j : Nat} (h : U.length ≤ i) : seg U i j = [] := by unfold seg; rw [List.drop_of_length_le h]; simp
theorem seg_cut {U : List FV} {i j j' : Nat} (h : U.length ≤ j) (h' : U.length ≤ j') : seg U i j = seg U i j' := by
  unfold seg
  rw [List.take_of_length_le (by rw [List.length_drop]; omega), List.take_of_length_le (by rw [List.length_drop]; omega)]
/-- the blocks of s before the p-th, and those from the q-th on -/
def Lo (s p : Nat) (U : List FV) : Prop := ∀ t, t < p → Srt FV.key (seg U (t * s) ((t + 1) * s))
def Hi (s q : Nat) (U : List FV) : Prop := ∀ t, q ≤ t → Srt FV.key (seg U (t * s) ((t + 1) * s))
theorem srt_nil : Srt FV.key [] := List.Pairwise.nil
theorem mul_step {t p s : Nat} (h : t < p) : (t + 1) * s ≤ p * s := Nat.mul_le_mul_right s h
theorem lo_put {s p : Nat} {L X Z R : List FV} (h : Lo s p (L ++ X ++ R)) (hl : L.length = p * s) (hz : Srt FV.key Z) (hs : L.length + Z.length = (p + 1) * s ∨ (R = [] ∧ L.length + Z.length ≤ (p + 1) * s)) : Lo s (p + 1) (L ++ Z ++ R) := fun t ht => by
  by_cases hp : t < p
  · have := h t hp
    have hm := mul_step (s := s) hp
    rw [seg_low (by omega)] at this ⊢
    exact this
  · have : t = p := by omega
    subst this
    rcases hs with hs | ⟨rfl, hs⟩
    · rw [seg_mid hl (by omega)]; exact hz
    · rw [List.append_nil, seg_end hl (by omega)]; exact hz
theorem hi_put {s q : Nat} {L X Z R : List FV} (h : Hi s q (L ++ X ++ R)) (hx : X.length = Z.length) (hq : L.length + X.length ≤ q * s) : Hi s q (L ++ Z ++ R) := fun t ht => by
  have := h t ht
  have hm : q * s ≤ t * s := Nat.mul_le_mul_right s ht
  rw [seg_high (by omega)] at this ⊢
  rw [← hx]
  exact this
theorem hi_out {s q : Nat} {U : List FV} (h : U.length ≤ q * s) : Hi s q U := fun t ht => by
  have hm : q * s ≤ t * s := Nat.mul_le_mul_right s ht
  rw [seg_out (by omega)]
  exact srt_nil
theorem lo_hi {s p : Nat} {U : List FV} (h : Lo s p U) (g : Hi s p U) : Hi s 0 U := fun t _ => by
  by_cases ht : t < p
  · exact h t ht
  · exact g t (by omega)
theorem hi_whole {s : Nat} {U : List FV} (h : Hi s 0 U) (hs : U.length ≤ s) : Srt FV.key U := by
  have := h 0 (Nat.le_refl _)
  rw [Nat.zero_mul, Nat.zero_add, Nat.one_mul] at this
  unfold seg at this
  rw [List.drop_zero, Nat.sub_zero, List.take_of_length_le hs] at this
  exact this
theorem three {U : List FV} {i j : Nat} (h : i ≤ j) (hj : j ≤ U.length) : U = U.take i ++ seg U i j ++ U.drop j ∧ (U.take i).length = i ∧ i + (seg U i j).length = j := by
  refine ⟨by rw [List.append_assoc]; exact whole_seg h, by rw [List.length_take]; omega, by rw [seg_len hj]; omega⟩
end Go.Proofs.YtlgonkopojancaaDoor
