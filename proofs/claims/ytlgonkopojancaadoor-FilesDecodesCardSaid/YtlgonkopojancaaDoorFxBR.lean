/- Rows of files that are sorted in place: what is loaded, what is exchanged. -/
import Derived.Test.YtlgonkopojancaaDoorFxSymP
import Derived.Test.YtlgonkopojancaaDoorFxTake
import Derived.Deep.MidRow
namespace Go.Proofs.YtlgonkopojancaaDoor
open Go.RowKit

/-- a row of files in block g -/
def BR (g n cap : Nat) (w : World) (vs : List FV) : Prop := w.ownsRow 0 33 4 (.slice (some ⟨g, 0, none⟩) n cap) n (flat vs)
theorem BR.len {g n cap : Nat} {w : World} {vs : List FV} (h : BR g n cap w vs) : vs.length = n := by have := h.1; rw [length_flat] at this; omega
theorem BR.block {g n cap : Nat} {w : World} {vs : List FV} (h : BR g n cap w vs) : ∃ cur, w.heap[g]? = some (.cells cur 33 (0, 0)) ∧ n ≤ cap ∧ cap ≤ 2 ^ 63 - 1 ∧ cur.size = cap * 4 ∧ cur.toList.take (n * 4) = flat vs := by
  rcases h.2 with ⟨h', _⟩ | ⟨g', cap', cur, h', _, hg, hc, hm, hs, ht⟩
  · simp at h'
  · simp only [Value.slice.injEq, Option.some.injEq, Addr.mk.injEq, and_true, true_and] at h'
    obtain ⟨rfl, rfl⟩ := h'
    exact ⟨cur, hg, hc, by unfold maxLen at hm; exact hm, hs, ht⟩
theorem BR.mk {g n cap : Nat} {w : World} {vs : List FV} {cur : Array Value} (hg : w.heap[g]? = some (.cells cur 33 (0, 0))) (hc : n ≤ cap) (hm : cap ≤ 2 ^ 63 - 1) (hs : cur.size = cap * 4) (ht : cur.toList.take (n * 4) = flat vs) : BR g n cap w vs := by
  refine ⟨?_, .inr ⟨g, cap, cur, rfl, Nat.zero_le _, hg, hc, by unfold maxLen; exact hm, hs, ht⟩⟩
  rw [← ht, List.length_take]
  have : cur.toList.length = cap * 4 := by simpa using hs
  omega
theorem BR.same {g n cap : Nat} {w w' : World} {vs : List FV} (h : BR g n cap w vs) (f : Same w w') : BR g n cap w' vs := f.own h (fun _ _ e => e)
theorem BR.lt {g n cap : Nat} {w : World} {vs : List FV} (h : BR g n cap w vs) : g < w.heap.size := by obtain ⟨cur, hg, _⟩ := h.block; exact blk_lt hg
theorem getD_eq {α : Type} [Inhabited α] {l : List α} {j : Nat} (h : j < l.length) : l.getD j default = l[j] := by rw [List.getD_eq_getElem?_getD, List.getElem?_eq_getElem h]; rfl
theorem BR.range {g n cap : Nat} {w : World} {vs : List FV} (h : BR g n cap w vs) {j : Nat} (hj : j < n) : w.rangeAt g (j * 4) (vs.getD j default).cells ∧ w.there g (j * 4) 4 := by
  obtain ⟨cur, hg, hc, hm, hs, ht⟩ := h.block
  have hl := h.len
  have hcl : cur.toList.length = cap * 4 := by simpa using hs
  constructor
  · intro i u hu
    rw [blk_cell hg]
    have h1 := flat_at vs j (by omega) i u hu
    rw [← ht] at h1
    have hi : i < 4 := (List.getElem?_eq_some_iff.1 hu).1
    rw [List.getElem?_take_of_lt (by omega)] at h1
    simpa using h1
  · intro i hi
    refine ⟨?_, blk_frozen hg _⟩
    rw [blk_cell hg, Array.getElem?_eq_getElem (by omega)]
    rfl
/-- some cells laid into a list -/
def lay (l : List Value) : Nat → List Value → List Value
  | _, [] => l
  | o, v :: r => lay (l.set o v) (o + 1) r
theorem blk_setCells {g : Nat} : ∀ (us : List Value) (o : Nat) (w : World) (cur : Array Value), w.heap[g]? = some (.cells cur 33 (0, 0)) → ∃ cur', (w.setCells g o us).heap[g]? = some (.cells cur' 33 (0, 0)) ∧ cur'.toList = lay cur.toList o us ∧ cur'.size = cur.size
  | [], _, _, cur, h => ⟨cur, h, rfl, rfl⟩
  | u :: us, o, w, cur, h => by
    obtain ⟨cur', h1, h2, h3⟩ := blk_setCells us (o + 1) (w.setCell ⟨g, o, none⟩ u) _ (blk_set h o u)
    refine ⟨cur', h1, ?_, ?_⟩
    · rw [h2]
      simp [lay]
    · rw [h3]; simp
theorem frg_setCells {g : Nat} : ∀ (us : List Value) (o : Nat) (w0 w : World), FrG g w0 w → FrG g w0 (w.setCells g o us)
  | [], _, _, _, h => h
  | u :: us, o, w0, _, h => frg_setCells us (o + 1) w0 _ (h.trans' (frg_set u))
theorem lay_take : ∀ (us : List Value) (o m : Nat) (l : List Value), o + us.length ≤ m → (lay l o us).take m = lay (l.take m) o us
  | [], _, _, _, _ => rfl
  | u :: us, o, m, l, h => by
    simp only [List.length_cons] at h
    rw [lay, lay, lay_take us (o + 1) m _ (by omega), List.take_set]
theorem lay_flat : ∀ (vs : List FV) (j : Nat) (v : FV), j < vs.length → lay (flat vs) (j * 4) v.cells = flat (vs.set j v)
  | u :: vs, 0, v, _ => by
    rw [List.set_cons_zero, flat_cons, flat_cons]
    rfl
  | u :: vs, j + 1, v, h => by
    have hx : ∀ (us : List Value) (o : Nat) (p l : List Value), lay (p ++ l) (p.length + o) us = p ++ lay l o us := by
      intro us
      induction us with
      | nil => intro o p l; rfl
      | cons u us ih =>
        intro o p l
        rw [lay, lay, List.set_append_right _ _ (by omega), show p.length + o - p.length = o by omega, show p.length + o + 1 = p.length + (o + 1) by omega, ih]
    rw [List.set_cons_succ, flat_cons, flat_cons, show (j + 1) * 4 = u.cells.length + j * 4 by rw [FV.length_cells]; omega, hx, lay_flat vs j v (by simpa using h)]
theorem BR.put {g n cap : Nat} {w : World} {vs : List FV} (h : BR g n cap w vs) {j : Nat} (hj : j < n) (v : FV) : BR g n cap (w.setCells g (j * 4) v.cells) (vs.set j v) := by
  obtain ⟨cur, hg, hc, hm, hs, ht⟩ := h.block
  have hl := h.len
  obtain ⟨cur', h1, h2, h3⟩ := blk_setCells v.cells (j * 4) w cur hg
  refine BR.mk h1 hc hm (h3.trans hs) ?_
  rw [h2, lay_take _ _ _ _ (by rw [FV.length_cells]; omega), ht, lay_flat vs j v (by omega)]
/-- an exchange -/
def swl (vs : List FV) (i j : Nat) : List FV := (vs.set i (vs.getD j default)).set j (vs.getD i default)
theorem BR.swap {g n cap : Nat} {w : World} {vs : List FV} (h : BR g n cap w vs) {i j : Nat} (hi : i < n) (hj : j < n) : BR g n cap ((w.setCells g (i * 4) (vs.getD j default).cells).setCells g (j * 4) (vs.getD i default).cells) (swl vs i j) :=
  (h.put hi _).put hj _
theorem info33s : (Tryd.prog.info? 33).map (·.size) = some 4 := by kernel_rfl
theorem rangeAt_same {w w' : World} {g o : Nat} {cs : List Value} (h : w.rangeAt g o cs) (f : Same w w') : w'.rangeAt g o cs := fun j v hv => f.cell (h j v hv) (fun e => e)
theorem swl_length (vs : List FV) (i j : Nat) : (swl vs i j).length = vs.length := by unfold swl; simp
end Go.Proofs.YtlgonkopojancaaDoor
