/- Appends of files in a region that draws its order; parts of a row. -/
import Derived.Test.YtlgonkopojancaaDoorFxBR
import Derived.Test.YtlgonkopojancaaDoorFxFile
namespace Go.Proofs.YtlgonkopojancaaDoor
open Go.RowKit

/-- append of a row of files that is read, in a drawn region -/
theorem wp_app_rows {Q : Exit → Act → World → Prop} {K : Act → World → Prop} {o : Oper} {a : Act} {w : World}
    (s y : Operand) (ho : o.op = Op.call { callee := Callee.builtin Builtin.append, args := #[s, y], argTypes := #[23, 23] })
    (v : Value) (n m c : Nat) (A : Option Addr) (xs : List Value) (vs : List FV) (hs : a.eval s = v) (hy : a.eval y = .slice A m c) (hown : w.ownsRow 0 33 4 v n xs) (hr : VRd w A m vs) (hb : n + m ≤ 1000000000)
    (h : ∀ v' w', w'.ownsRow 0 33 4 v' (n + m) (xs ++ flat vs) → Grew v v' w w' → K (a.put o.dst v') w') :
    o.wp Tryd.prog a w K Q := by
  obtain ⟨i, hi, hz0, hz1, hz2⟩ := info_parts info33
  cases A with
  | none =>
    have hm : m = 0 := by
      rcases Nat.eq_zero_or_pos m with h0 | h0
      · exact h0
      · obtain ⟨b, o', e, _⟩ := hr.2.2 h0
        cases e
    subst hm
    have hvs : vs = [] := List.eq_nil_of_length_eq_zero hr.1
    subst hvs
    have hrun : (Builtin.append_ #[23, 23] o.type #[v, .slice none 0 c]).run Tryd.prog w = .ok v w := by
      rcases hown.2 with ⟨rfl, rfl⟩ | ⟨g, cap, cur, rfl, _, _, hnc, _⟩
      · simp [Builtin.append_, run_underlying Tryd.underlying23, sizeOf, typeInfo, hi, Builtin.lenOf, Builtin.firstCells]
      · simp [Builtin.append_, run_underlying Tryd.underlying23, sizeOf, typeInfo, hi, Builtin.lenOf, Builtin.firstCells, hnc, storeCells]
    unfold Oper.wp execOp
    simp only [ho, resolve, invoke, builtin, Sem.run_bind, Sem.run_pure, Result.andThen_ok, List.map_toArray, List.map_cons, List.map_nil, hs, hy, hrun]
    exact h v w (by simpa [flat] using hown) (Grew.refl _ _)
  | some ad =>
    obtain ⟨v', w', hrun, h2, h3, _, h5⟩ := run_append_own_at (P := Tryd.prog) w 0 23 o.type 33 i _ 4 56 Tryd.underlying23 hi hz0 hz1 hz2 rfl (by decide) v n xs hown ad m c (flat vs) (by rw [length_flat, hr.1])
      (vrd_flat hr) (by intro u hu; obtain ⟨x, _, hx⟩ := List.mem_flatMap.1 hu; exact one4 x u hx) (by unfold maxLen; omega) (by omega) (Nat.zero_le _)
    unfold Oper.wp execOp
    simp only [ho, resolve, invoke, builtin, Sem.run_bind, Sem.run_pure, Result.andThen_ok, List.map_toArray, List.map_cons, List.map_nil, hs, hy, hrun]
    exact h v' w' h2 ⟨Fr.of_grown h3, h5.imp id fun e => ⟨_, e, Nat.le_refl _⟩⟩

theorem vrd_after {w : World} {A : Option Addr} {n c k : Nat} {vs : List FV} (h : VRd w A n vs) (hc : n ≤ c) (hk : k ≤ n) : VRd w (if c = k then A else A.map (·.add (k * 4))) (n - k) (vs.drop k) := by
  refine ⟨by rw [List.length_drop, h.1], Nat.le_trans (Nat.sub_le _ _) h.2.1, fun hn => ?_⟩
  obtain ⟨b, o, rfl, hcs⟩ := h.2.2 (by omega)
  rw [if_neg (by omega)]
  refine ⟨b, o + k * 4, ?_, fun j hj i u hu => ?_⟩
  · simp only [Option.map_some]
    congr 1
    unfold Addr.add
    simp
  · have e : (vs.drop k).getD j default = vs.getD (k + j) default := by
      rw [List.getD_eq_getElem?_getD, List.getD_eq_getElem?_getD, List.getElem?_drop]
    rw [e] at hu
    have := hcs (k + j) (by omega) i u hu
    rw [show o + (k + j) * 4 + i = o + k * 4 + j * 4 + i by omega] at this
    exact this
theorem vrd_upto {w : World} {A : Option Addr} {n k : Nat} {vs : List FV} (h : VRd w A n vs) (hk : k ≤ n) : VRd w A k (vs.take k) := by
  refine ⟨by rw [List.length_take, h.1]; omega, Nat.le_trans hk h.2.1, fun hn => ?_⟩
  obtain ⟨b, o, rfl, hcs⟩ := h.2.2 (by omega)
  refine ⟨b, o, rfl, fun j hj i u hu => ?_⟩
  have e : (vs.take k).getD j default = vs.getD j default := by
    rw [List.getD_eq_getElem?_getD, List.getD_eq_getElem?_getD, List.getElem?_take_of_lt (by omega)]
  rw [e] at hu
  exact hcs j (by omega) i u hu
theorem vrd_lit (w : World) (v : FV) : VRd (w.alloc (.cells v.cells.toArray 33)) (some ⟨w.heap.size, 0, none⟩) 1 [v] := by
  refine ⟨rfl, by decide, fun _ => ⟨w.heap.size, 0, rfl, fun j hj i u hu => ?_⟩⟩
  have : j = 0 := by omega
  subst this
  rw [Nat.zero_mul, Nat.zero_add, blk_cell (blk_new w _)]
  have h2 : v.cells[i]? = some u := hu
  simpa using h2
theorem flat_one (v : FV) : flat [v] = v.cells := by simp [flat]
end Go.Proofs.YtlgonkopojancaaDoor
