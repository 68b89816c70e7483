/- Stable merging: plain. -/
import Derived.Test.YtlgonkopojancaaDoorFxStab
namespace Go.Proofs.YtlgonkopojancaaDoor
open Go.RowKit

section
variable {α : Type} (key : α → ByteArray)
/-- all of the one not above all of the other -/
def Leq (xs ys : List α) : Prop := ∀ x ∈ xs, ∀ y ∈ ys, lessB (key y) (key x) = false
/-- all of the one below all of the other -/
def Lss (xs ys : List α) : Prop := ∀ x ∈ xs, ∀ y ∈ ys, lessB (key x) (key y) = true
theorem stable_mem {l l' : List α} (h : StableOf key l l') {x : α} (hx : x ∈ l') : x ∈ l := by
  have h1 : x ∈ l'.filter (fun z => decide (key z = key x)) := List.mem_filter.2 ⟨hx, by simp⟩
  rw [h.2 (key x)] at h1
  exact (List.mem_filter.1 h1).1
theorem stable_mem' {l l' : List α} (h : StableOf key l l') {x : α} (hx : x ∈ l) : x ∈ l' := by
  have h1 : x ∈ l.filter (fun z => decide (key z = key x)) := List.mem_filter.2 ⟨hx, by simp⟩
  rw [← h.2 (key x)] at h1
  exact (List.mem_filter.1 h1).1
theorem srt_app {xs ys : List α} (hx : Srt key xs) (hy : Srt key ys) (h : Leq key xs ys) : Srt key (xs ++ ys) := by
  unfold Srt at *
  rw [List.pairwise_append]
  exact ⟨hx, hy, h⟩
theorem srt_left {xs ys : List α} (h : Srt key (xs ++ ys)) : Srt key xs := (List.pairwise_append.1 h).1
theorem srt_right {xs ys : List α} (h : Srt key (xs ++ ys)) : Srt key ys := (List.pairwise_append.1 h).2.1
theorem srt_leq {xs ys : List α} (h : Srt key (xs ++ ys)) : Leq key xs ys := (List.pairwise_append.1 h).2.2
/-- what is strictly below does not have a name in common -/
theorem filter_apart {xs ys : List α} (h : Lss key xs ys) (k : ByteArray) : xs.filter (fun z => decide (key z = k)) = [] ∨ ys.filter (fun z => decide (key z = k)) = [] := by
  rcases hx : xs.filter (fun z => decide (key z = k)) with _ | ⟨x, l⟩
  · exact .inl rfl
  · refine .inr (List.filter_eq_nil_iff.2 fun y hy hk => ?_)
    have hx' : x ∈ xs.filter (fun z => decide (key z = k)) := by rw [hx]; simp
    have h1 := List.mem_filter.1 hx'
    have h2 := h x h1.1 y hy
    have e1 : key x = k := by simpa using h1.2
    have e2 : key y = k := by simpa using hk
    rw [e1, e2, less_irrefl] at h2
    cases h2
/-- two runs, each parted: the first parts below the second ones -/
theorem stable_parts {X1 X2 Y1 Y2 Z1 Z2 : List α} (hX : Srt key (X1 ++ X2)) (hY : Srt key (Y1 ++ Y2)) (hs : Lss key Y1 X2) (hl : Leq key X1 Y2) (h1 : StableOf key (X1 ++ Y1) Z1) (h2 : StableOf key (X2 ++ Y2) Z2) :
    StableOf key ((X1 ++ X2) ++ (Y1 ++ Y2)) (Z1 ++ Z2) := by
  refine ⟨srt_app key h1.1 h2.1 ?_, fun k => ?_⟩
  · intro x hx y hy
    rcases List.mem_append.1 (stable_mem key h1 hx) with hx | hx <;> rcases List.mem_append.1 (stable_mem key h2 hy) with hy | hy
    · exact srt_leq key hX x hx y hy
    · exact hl x hx y hy
    · exact less_asymm (hs x hx y hy)
    · exact srt_leq key hY x hx y hy
  · rw [List.filter_append, h1.2 k, h2.2 k]
    simp only [List.filter_append]
    rcases filter_apart key hs k with e | e
    · rw [e]; simp
    · rw [e]; simp
theorem leq_of {xs ys : List α} (hx : Srt key xs) (hy : Srt key ys) (h : xs = [] ∨ ys = [] ∨ ∃ x y xs' ys', xs = xs' ++ [x] ∧ ys = y :: ys' ∧ lessB (key y) (key x) = false) : Leq key xs ys := by
  intro a ha b hb
  rcases h with rfl | rfl | ⟨x, y, xs', ys', rfl, rfl, h⟩
  · simp at ha
  · simp at hb
  · have h1 : lessB (key x) (key a) = false := by
      rcases List.mem_append.1 ha with ha | ha
      · exact srt_leq key hx a ha x (by simp)
      · simp at ha; subst ha; exact less_irrefl _
    have h2 : lessB (key b) (key y) = false := by
      rcases List.mem_cons.1 hb with rfl | hb
      · exact less_irrefl _
      · exact (List.pairwise_cons.1 hy).1 b hb
    exact le_trans' h1 (le_trans' h h2)
theorem less_le {x y z : ByteArray} (h : lessB x y = true) (g : lessB z y = false) : lessB x z = true := by
  rcases hq : lessB x z with _ | _
  · have := le_trans' g hq
    rw [h] at this; cases this
  · rfl
theorem le_less {x y z : ByteArray} (h : lessB y x = false) (g : lessB y z = true) : lessB x z = true := by
  rcases hq : lessB x z with _ | _
  · have := le_trans' hq h
    rw [g] at this; cases this
  · rfl
theorem lss_of {xs ys : List α} (hx : Srt key xs) (hy : Srt key ys) (h : xs = [] ∨ ys = [] ∨ ∃ x y xs' ys', xs = xs' ++ [x] ∧ ys = y :: ys' ∧ lessB (key x) (key y) = true) : Lss key xs ys := by
  intro a ha b hb
  rcases h with rfl | rfl | ⟨x, y, xs', ys', rfl, rfl, h⟩
  · simp at ha
  · simp at hb
  · have h1 : lessB (key x) (key a) = false := by
      rcases List.mem_append.1 ha with ha | ha
      · exact srt_leq key hx a ha x (by simp)
      · simp at ha; subst ha; exact less_irrefl _
    have h2 : lessB (key b) (key y) = false := by
      rcases List.mem_cons.1 hb with rfl | hb
      · exact less_irrefl _
      · exact (List.pairwise_cons.1 hy).1 b hb
    exact le_less h1 (less_le h h2)
theorem stable_srt {l : List α} (h : Srt key l) : StableOf key l l := stable_refl h
theorem stable_nil : StableOf key ([] : List α) [] := stable_refl List.Pairwise.nil
/-- a piece of a list -/
def seg (l : List α) (i j : Nat) : List α := (l.drop i).take (j - i)
theorem seg_len {l : List α} {i j : Nat} (hj : j ≤ l.length) : (seg l i j).length = j - i := by unfold seg; rw [List.length_take, List.length_drop]; omega
theorem seg_split {l : List α} {i j k : Nat} (h1 : i ≤ j) (h2 : j ≤ k) : seg l i k = seg l i j ++ seg l j k := by
  unfold seg
  rw [show k - i = (j - i) + (k - j) by omega, List.take_add, List.drop_drop, show i + (j - i) = j by omega]
theorem take_seg {l : List α} {i j : Nat} (h : i ≤ j) : l.take j = l.take i ++ seg l i j := by
  unfold seg
  rw [show j = i + (j - i) by omega, List.take_add, show i + (j - i) - i = j - i by omega]
theorem whole_seg {l : List α} {i j : Nat} (h : i ≤ j) : l = l.take i ++ (seg l i j ++ l.drop j) := by
  rw [← List.append_assoc, ← take_seg h, List.take_append_drop]
theorem seg_last [Inhabited α] {l : List α} {i j : Nat} (h : i < j) (hj : j ≤ l.length) : seg l i j = seg l i (j - 1) ++ [l.getD (j - 1) default] := by
  rw [seg_split (j := j - 1) (by omega) (by omega)]
  congr 1
  unfold seg
  have hd : l.drop (j - 1) = l[j - 1] :: l.drop (j - 1 + 1) := List.drop_eq_getElem_cons (by omega)
  rw [show j - (j - 1) = 1 by omega, hd, List.getD_eq_getElem?_getD, List.getElem?_eq_getElem (by omega)]
  rfl
theorem seg_head [Inhabited α] {l : List α} {i j : Nat} (h : i < j) (hj : j ≤ l.length) : seg l i j = l.getD i default :: seg l (i + 1) j := by
  unfold seg
  have hd : l.drop i = l[i] :: l.drop (i + 1) := List.drop_eq_getElem_cons (by omega)
  rw [hd, List.getD_eq_getElem?_getD, List.getElem?_eq_getElem (by omega), show j - i = (j - (i + 1)) + 1 by omega]
  rfl
theorem seg_self {l : List α} {i : Nat} : seg l i i = [] := by unfold seg; simp
theorem seg_empty {l : List α} {i j : Nat} (h : j ≤ i) : seg l i j = [] := by unfold seg; rw [show j - i = 0 by omega]; simp
end
end Go.Proofs.YtlgonkopojancaaDoor
