/- append of a string onto a row of bytes of the call's own. -/
import Derived.Test.YtlgonkopojancaaDoorFxOne
import Derived.Lib.AppendStr
namespace Go.Proofs.YtlgonkopojancaaDoor
open Go.RowKit

theorem strCells_nums (s : ByteArray) : Lib.strCells s = bts (nums s) := by
  unfold Lib.strCells bts nums
  rw [List.map_map]
  rfl
theorem run_append_string (w : World) (ty : TypeId) (v : Value) (n : Nat) (xs : List Value) (hown : w.ownsRow 0 5 1 v n xs) (s : ByteArray) (hb : n + s.size ≤ 140737488355328) :
    ∃ v' w', (Builtin.append_ #[25, 9] ty #[v, .string s]).run Tryd.prog w = .ok v' w' ∧ w'.ownsRow 0 5 1 v' (n + s.size) (xs ++ bts (nums s)) ∧ Grew v v' w w' := by
  obtain ⟨i, hi, hz0, hz1, hz2⟩ := info_parts info5
  have h63 : n + s.size ≤ maxLen := by unfold maxLen; omega
  obtain ⟨v', w', hr, h2, h3, _⟩ := Lib.run_append_own_string (P := Tryd.prog) w 0 25 9 ty 5 i Tryd.underlying25 Tryd.underlying9 hi hz0 hz1 hz2 v n xs hown s h63 hb (Nat.zero_le _)
  rw [strCells_nums] at h2
  refine ⟨v', w', hr, h2, ⟨Fr.of_grown h3, ?_⟩⟩
  have hxl : xs.length = n := by simpa using hown.1
  rcases hown.2 with ⟨rfl, rfl⟩ | ⟨g, cap, cur, rfl, hbg, hg, hnc, hcm, hcs, htake⟩
  · have hx : xs = [] := List.eq_nil_of_length_eq_zero hxl
    subst hx
    obtain ⟨v2, w2, hr2, g2, _, _⟩ := Lib.run_append_own_string (P := Tryd.prog) w w.heap.size 25 9 ty 5 i Tryd.underlying25 Tryd.underlying9 hi hz0 hz1 hz2 (.slice none 0 0) 0 [] (World.ownsRow_nil _ _ _ _) s h63 hb (Nat.le_refl _)
    rw [hr] at hr2
    injection hr2 with e1 e2
    subst e1
    rcases hob : v'.ownBlock with _ | j
    · exact .inl (by simp [Value.ownBlock])
    · exact .inr ⟨j, rfl, own_le g2 hob⟩
  · by_cases hroom : n + s.size ≤ cap
    · have hr2 := Lib.run_append_room_string (P := Tryd.prog) w 25 9 ty 5 i Tryd.underlying25 Tryd.underlying9 hi hz1 g n cap cur hg s hroom (by omega)
      rw [hr] at hr2
      injection hr2 with e1 e2
      subst e1
      exact .inl rfl
    · have hr2 := Lib.run_append_grow_string (P := Tryd.prog) w 25 9 ty 5 i (.int .u8 0) Tryd.underlying25 Tryd.underlying9 hi hz0 ⟨g, 0, none⟩ n cap xs (by rw [hz1]; simpa using hxl) (hown.cells (g := g) rfl) s (by omega) (by omega) (by rw [hz2]; exact growslice_fits (by omega) (by omega))
      rw [hr] at hr2
      injection hr2 with e1 e2
      subst e1
      exact .inr ⟨w.heap.size, rfl, Nat.le_refl _⟩

/-- the same in a walk -/
theorem wpList_append_string {ops : Array Oper} {rest : List Oper} {o : Oper} {a : Act} {w : World} {Q : Exit → Act → World → Prop}
    (hg : o.guard = none) (sl y : Operand) (ho : o.op = Op.call { callee := Callee.builtin Builtin.append, args := #[sl, y], argTypes := #[25, 9] })
    (v : Value) (n : Nat) (xs : List Value) (hs : a.eval sl = v) (hown : w.ownsRow 0 5 1 v n xs) (s : ByteArray) (hy : a.eval y = .string s) (hb : n + s.size ≤ 140737488355328)
    (h : ∀ v' w', w'.ownsRow 0 5 1 v' (n + s.size) (xs ++ bts (nums s)) → Grew v v' w w' → wpList Tryd.prog ops Q rest (a.put o.dst v') w') :
    wpList Tryd.prog ops Q (o :: rest) a w := by
  refine wpList_plain hg fun K hK => ?_
  obtain ⟨v', w', hr, h2, h3⟩ := run_append_string w o.type v n xs hown s hb
  unfold Oper.wp execOp
  simp only [ho, resolve, invoke, builtin, Sem.run_bind, Sem.run_pure, Result.andThen_ok, List.map_toArray, List.map_cons, List.map_nil, hs, hy, hr]
  exact hK _ _ (h v' w' h2 h3)
/-- the same as one step of a region that draws its order -/
theorem step_append_string {ops : Array Oper} {o : Oper} {a : Act} {w : World} {K : Act → World → Prop} {Q : Exit → Act → World → Prop} {E : Prop}
    (hg : o.guard = none) (sl y : Operand) (ho : o.op = Op.call { callee := Callee.builtin Builtin.append, args := #[sl, y], argTypes := #[25, 9] })
    (v : Value) (n : Nat) (xs : List Value) (hs : a.eval sl = v) (hown : w.ownsRow 0 5 1 v n xs) (s : ByteArray) (hy : a.eval y = .string s) (hb : n + s.size ≤ 140737488355328)
    (h : ∀ v' w', w'.ownsRow 0 5 1 v' (n + s.size) (xs ++ bts (nums s)) → Grew v v' w w' → K (a.put o.dst v') w') :
    if Region.wanted o (yielded ops a.tmps) = true then Oper.wp Tryd.prog o a w K Q else E := by
  have hw : Region.wanted o (yielded ops a.tmps) = true := by simp [Region.wanted, hg]
  rw [if_pos hw]
  obtain ⟨v', w', hr, h2, h3⟩ := run_append_string w o.type v n xs hown s hb
  unfold Oper.wp execOp
  simp only [ho, resolve, invoke, builtin, Sem.run_bind, Sem.run_pure, Result.andThen_ok, List.map_toArray, List.map_cons, List.map_nil, hs, hy, hr]
  exact h v' w' h2 h3
end Go.Proofs.YtlgonkopojancaaDoor
