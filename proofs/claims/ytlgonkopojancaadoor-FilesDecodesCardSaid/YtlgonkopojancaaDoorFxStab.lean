/- Stable order by name. -/
import Derived.Test.YtlgonkopojancaaDoorFxCmp
import Derived.Sort.Walk0
namespace Go.Proofs.YtlgonkopojancaaDoor
open Go.RowKit

theorem lessB_eq (x y : ByteArray) : lessB x y = decide (x.data.toList < y.data.toList) := by
  unfold lessB
  rw [Go.Proofs.bytesLess_eq, ByteArray.toList_eq, ByteArray.toList_eq]
theorem less_irrefl (x : ByteArray) : lessB x x = false := by
  rw [lessB_eq, decide_eq_false]
  exact List.lt_irrefl _
theorem less_trans {x y z : ByteArray} (h : lessB x y = true) (g : lessB y z = true) : lessB x z = true := by
  rw [lessB_eq, decide_eq_true_eq] at *
  exact List.lt_trans h g
theorem less_asymm {x y : ByteArray} (h : lessB x y = true) : lessB y x = false := by
  rcases hq : lessB y x with _ | _
  · rfl
  · have := less_trans h hq
    rw [less_irrefl] at this
    cases this
theorem less_total {x y : ByteArray} (h : lessB x y = false) (g : lessB y x = false) : x = y := by
  rw [lessB_eq, decide_eq_false_iff_not] at *
  refine bytes_ext _ _ ?_
  exact List.le_antisymm (List.not_lt.1 g) (List.not_lt.1 h)
/-- not above is transitive -/
theorem le_trans' {x y z : ByteArray} (h : lessB y x = false) (g : lessB z y = false) : lessB z x = false := by
  rcases hq : lessB z x with _ | _
  · rfl
  · rcases h2 : lessB x y with _ | _
    · have := less_total h2 h
      subst this
      rw [hq] at g; cases g
    · have := less_trans hq h2
      rw [this] at g; cases g

def Srt {α : Type} (key : α → ByteArray) : List α → Prop := List.Pairwise (fun a b => lessB (key b) (key a) = false)
/-- sorted by the key; those of one key stand as they stood -/
def StableOf {α : Type} (key : α → ByteArray) (l l' : List α) : Prop := Srt key l' ∧ ∀ k, l'.filter (fun x => decide (key x = k)) = l.filter (fun x => decide (key x = k))

theorem stable_unique_aux {α : Type} (key : α → ByteArray) : ∀ (a b : List α), Srt key a → Srt key b → (∀ k, a.filter (fun x => decide (key x = k)) = b.filter (fun x => decide (key x = k))) → a = b
  | [], [], _, _, _ => rfl
  | [], y :: b, _, _, h => by
    have := h (key y)
    simp at this
  | x :: a, [], _, _, h => by
    have := h (key x)
    simp at this
  | x :: a, y :: b, ha, hb, h => by
    have ha' := List.pairwise_cons.1 ha
    have hb' := List.pairwise_cons.1 hb
    have hxy : key x = key y := by
      refine less_total ?_ ?_
      · rcases hq : lessB (key x) (key y) with _ | _
        · rfl
        · exfalso
          have h1 := h (key x)
          rw [List.filter_cons_of_pos (by simp)] at h1
          have hm : x ∈ (y :: b).filter (fun z => decide (key z = key x)) := by rw [← h1]; simp
          have hm2 := (List.mem_filter.1 hm).1
          rcases List.mem_cons.1 hm2 with rfl | hm3
          · rw [less_irrefl] at hq; cases hq
          · rw [hb'.1 x hm3] at hq; cases hq
      · rcases hq : lessB (key y) (key x) with _ | _
        · rfl
        · exfalso
          have h1 := h (key y)
          rw [List.filter_cons_of_pos (l := b) (by simp)] at h1
          have hm : y ∈ (x :: a).filter (fun z => decide (key z = key y)) := by rw [h1]; simp
          have hm2 := (List.mem_filter.1 hm).1
          rcases List.mem_cons.1 hm2 with rfl | hm3
          · rw [less_irrefl] at hq; cases hq
          · rw [ha'.1 y hm3] at hq; cases hq
    have h1 := h (key x)
    rw [List.filter_cons_of_pos (by simp), List.filter_cons_of_pos (by simp [hxy])] at h1
    injection h1 with h2 h3
    subst h2
    rw [stable_unique_aux key a b ha'.2 hb'.2 (fun k => by
      have := h k
      by_cases hk : key x = k
      · rw [List.filter_cons_of_pos (by simp [hk]), List.filter_cons_of_pos (by simp [hk])] at this
        injection this
      · rw [List.filter_cons_of_neg (by simp [hk]), List.filter_cons_of_neg (by simp [hk])] at this
        exact this)]
theorem stable_unique {α : Type} {key : α → ByteArray} {l a b : List α} (ha : StableOf key l a) (hb : StableOf key l b) : a = b :=
  stable_unique_aux key a b ha.1 hb.1 (fun k => (ha.2 k).trans (hb.2 k).symm)
theorem stable_map {α β : Type} {key : α → ByteArray} {key2 : β → ByteArray} {f : α → β} (hk : ∀ x, key2 (f x) = key x) {l a : List α} (h : StableOf key l a) : StableOf key2 (l.map f) (a.map f) := by
  refine ⟨?_, fun k => ?_⟩
  · unfold Srt
    rw [List.pairwise_map]
    exact h.1.imp (fun {x y} h => by rw [hk, hk]; exact h)
  · rw [List.filter_map, List.filter_map]
    have e : (fun x => decide (key2 x = k)) ∘ f = fun x => decide (key x = k) := by funext x; simp [hk]
    rw [e, h.2 k]
theorem stable_short {α : Type} (key : α → ByteArray) (l : List α) (h : l.length ≤ 1) : StableOf key l l := by
  refine ⟨?_, fun _ => rfl⟩
  match l, h with
  | [], _ => exact List.Pairwise.nil
  | [x], _ => exact List.pairwise_singleton _ _
theorem stable_refl {α : Type} {key : α → ByteArray} {l : List α} (h : Srt key l) : StableOf key l l := ⟨h, fun _ => rfl⟩
theorem stable_trans {α : Type} {key : α → ByteArray} {l a b : List α} (h : ∀ k, a.filter (fun x => decide (key x = k)) = l.filter (fun x => decide (key x = k))) (g : StableOf key a b) : StableOf key l b := ⟨g.1, fun k => (g.2 k).trans (h k)⟩
theorem filters_perm {α : Type} [DecidableEq α] {key : α → ByteArray} {l a : List α} (h : ∀ k, a.filter (fun x => decide (key x = k)) = l.filter (fun x => decide (key x = k))) : a.Perm l := by
  rw [List.perm_iff_count]
  intro x
  have := congrArg (List.count x) (h (key x))
  rw [List.count_filter (by simp), List.count_filter (by simp)] at this
  exact this
end Go.Proofs.YtlgonkopojancaaDoor
