/- insertionSort at files, off the library's contract. -/
import Derived.Test.YtlgonkopojancaaDoorFxIns
namespace Go.Proofs.YtlgonkopojancaaDoor
open Go.RowKit Go.Sort

theorem flatK_flat (vs : List FV) : flatK FV.cells 4 vs.toArray = (flat vs).toArray := by
  apply Array.ext
  · simp [length_flat]
  · intro t h1 h2
    have ht : t < vs.length * 4 := by simpa using h1
    have hq : t / 4 < vs.length := by omega
    have e1 : (flatK FV.cells 4 vs.toArray)[t] = (FV.cells (vs[t / 4]'hq))[t % 4]! := by
      have := get_flatK FV.cells 4 vs.toArray t (by simpa using ht)
      rw [getElem!_pos _ t h1] at this
      rw [this]
      simp [Array.getElem!_eq_getD, Array.getD_eq_getD_getElem?, List.getElem?_eq_getElem hq]
    have hc : t % 4 < (FV.cells (vs[t / 4]'hq)).length := by rw [FV.length_cells]; omega
    have e2 := flat_at vs (t / 4) hq (t % 4) ((FV.cells (vs[t / 4]'hq))[t % 4]'hc) (by rw [getD_eq hq]; exact List.getElem?_eq_getElem hc)
    rw [show t / 4 * 4 + t % 4 = t by omega] at e2
    rw [e1]
    have h3 : t < (flat vs).length := by rw [length_flat]; exact ht
    rw [List.getElem?_eq_getElem h3] at e2
    have e3 : (FV.cells (vs[t / 4]'hq))[t % 4]! = (FV.cells (vs[t / 4]'hq))[t % 4]'hc := getElem!_pos (FV.cells (vs[t / 4]'hq)) (t % 4) hc
    rw [e3]
    simp only [List.getElem_toArray]
    exact (Option.some.inj e2).symm
theorem BR.holds {g n cap : Nat} {w : World} {vs : List FV} (h : BR g n cap w vs) : HoldsK FV.cells 4 w g 0 vs.toArray := by
  obtain ⟨cur, hg, hc, hm, hs, ht⟩ := h.block
  have hl := h.len
  have hcl : cur.toList.length = cap * 4 := by simpa using hs
  unfold HoldsK
  rw [flatK_flat]
  intro j hj
  have hj' : j < (flat vs).length := by simpa using hj
  have hjn : j < n * 4 := by rw [length_flat] at hj'; omega
  rw [Nat.zero_add, blk_cell hg]
  refine ⟨?_, blk_frozen hg _⟩
  have e : (flat vs)[j]? = cur.toList[j]? := by rw [← ht, List.getElem?_take_of_lt hjn]
  have e2 : cur[j]? = some (flat vs)[j] := by
    rw [List.getElem?_eq_getElem hj'] at e
    simpa using e.symm
  rw [e2]
  simp [List.getElem?_eq_getElem hj']
theorem sorted_BR {g n cap m : Nat} {w : World} {vs : List FV} {dk : Array FV} {os : Array Obj} (h : BR g n cap w vs) (hd : dk.size = n) : BR g n cap (sortWorldK FV.cells 4 w g 0 m dk os) dk.toList ∧ FrG g w (sortWorldK FV.cells 4 w g 0 m dk os) := by
  obtain ⟨cur, hg, hc, hm, hs, ht⟩ := h.block
  have hlt := h.lt
  have hcl : cur.toList.length = cap * 4 := by simpa using hs
  have hblk : (sortWorldK FV.cells 4 w g 0 m dk os).heap[g]? = some (.cells (putCells id 0 (flatK FV.cells 4 dk) cur) 33 (0, 0)) := by
    unfold sortWorldK grow putRowK putRow mapBlock
    simp only
    rw [Array.getElem?_append_left (by simpa using hlt), Array.getElem?_modify, if_pos rfl]
    show (w.heap[g]?).map _ = _
    rw [hg]
    rfl
  have hfl : flatK FV.cells 4 dk = (flat dk.toList).toArray := flatK_flat dk.toList
  constructor
  · refine BR.mk hblk hc hm (by unfold putCells; simpa using hs) ?_
    rw [hfl]
    have hll : (flat dk.toList).length = n * 4 := by rw [length_flat]; simp [hd]
    apply List.ext_getElem?
    intro t
    by_cases htn : t < n * 4
    · rw [List.getElem?_take_of_lt htn]
      unfold putCells
      have hcur : t < cur.size := by omega
      simp [hcur, hll, htn]
    · rw [List.getElem?_eq_none (by simp; omega), List.getElem?_eq_none (by omega)]
  · refine ⟨rfl, rfl, rfl, ?_, fun k hk hn => ?_⟩
    · unfold sortWorldK grow putRowK putRow mapBlock
      simp only [Array.size_append, Array.size_modify]
      show w.heap.size ≤ w.heap.size + _
      omega
    · unfold sortWorldK grow putRowK putRow mapBlock
      simp only
      rw [Array.getElem?_append_left (by simpa using hk), Array.getElem?_modify, if_neg (fun e => hn e.symm)]
      rfl
theorem cmp_lays (g size : Nat) (w : World) : CmpLays Tryd.prog 35 #[] FV.cells 4 cfV g 0 size w := by
  intro m os dk _ x y
  refine (sort1_any x y _).mono ?_
  rintro e w' ⟨rfl, rfl⟩
  refine ⟨rfl, 0, #[.cells x.cells.toArray 33, .cells y.cells.toArray 33], ?_⟩
  unfold grow World.alloc World.drewN
  simp only [Array.push_eq_append, Array.append_assoc]
  rfl
theorem ins_any (g n cap a b : Nat) (L X R : List FV) (w : World) (h : BR g n cap w (L ++ X ++ R)) (h63 : n ≤ 1000000) (ha : L.length = a) (hb : a + X.length = b) :
    Calls Tryd.prog 57 #[.slice (some ⟨g, 0, none⟩) n cap, .int .i64 a, .int .i64 b, cmpV] w fun e w' => e = .returned (.tuple #[]) ∧ ∃ Z, StableOf FV.key X Z ∧ Z.length = X.length ∧ BR g n cap w' (L ++ Z ++ R) ∧ FrG g w w' := by
  have hl := h.len
  simp only [List.length_append] at hl
  have hsz : (L ++ X ++ R).toArray.size = n := by simp; omega
  have key := AnyQ.insertionSortCmpFunc Tryd.lins 4 isAgg33 sizeOf33 FV.cells FV.length_cells one4 cfV 35 #[] g 0 cap a b (L ++ X ++ R).toArray w enters35 (cmp_lays _ _ _) h.holds h.lt (by omega) (by rw [hsz]; omega) (by rw [hsz]; omega)
  rw [hsz] at key
  refine key.mono ?_
  rintro e w' ⟨rfl, m, os, rfl⟩
  obtain ⟨Z, h1, h2, h3⟩ := insertion_toList (d := (L ++ X ++ R).toArray) (L := L) (X := X) (R := R) (a := a) (b := b) ha hb rfl
  obtain ⟨h4, h5⟩ := sorted_BR (m := m) (os := os) (dk := insertionSort (ltOf cfV) (L ++ X ++ R).toArray a b) h (by
    have : (insertionSort (ltOf cfV) (L ++ X ++ R).toArray a b).toList.length = n := by rw [h3]; simp only [List.length_append]; omega
    simpa using this)
  rw [h3] at h4
  exact ⟨rfl, Z, h1, h2, h4, h5⟩
end Go.Proofs.YtlgonkopojancaaDoor
