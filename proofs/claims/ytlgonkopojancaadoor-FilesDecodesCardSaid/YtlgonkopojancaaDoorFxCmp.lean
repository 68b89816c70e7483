/- The walks of cmp.Compare at strings and of Sort's closure. -/
import Derived.Test.YtlgonkopojancaaDoorFxCheck
namespace Go.Proofs.YtlgonkopojancaaDoor
open Go.RowKit

theorem isnan_any (x : ByteArray) (w : World) : Calls Tryd.prog 52 #[.string x] w fun e w' => e = .returned (.bool false) ∧ w' = w := by
  go_enter Tryd.func52, Tryd.ntmps52
  go_wp2
  go_ret
  exact ⟨ret_bool (by simp), rfl⟩

def lessB (x y : ByteArray) : Bool := Op.bytesLess x.toList y.toList
def cmpI (x y : ByteArray) : Int := if lessB x y then -1 else if !(x.toList == y.toList) then 1 else 0
theorem cmp_any (x y : ByteArray) (w : World) : Calls Tryd.prog 36 #[.string x, .string y] w fun e w' => e = .returned (.int .i64 (cmpI x y)) ∧ w' = w := by
  go_enter Tryd.func36, Tryd.ntmps36
  go_wp2_with (go_at_call 52; refine (isnan_any _ _).mono ?_; rintro e w1 ⟨rfl, rfl⟩)
  · have h1 : Op.bytesLess x.toList y.toList = true := by assumption
    go_ret
    exact ⟨ret_int (by unfold cmpI lessB; rw [h1]; rfl), rfl⟩
  · have h1 : Op.bytesLess x.toList y.toList = false := by assumption
    have h2 : (!x.toList == y.toList) = true := by assumption
    go_ret
    exact ⟨ret_int (by unfold cmpI lessB; rw [h1, h2]; rfl), rfl⟩
  · have h1 : Op.bytesLess x.toList y.toList = false := by assumption
    have h2 : (!x.toList == y.toList) = false := by assumption
   
    go_ret
    exact ⟨ret_int (by unfold cmpI lessB; rw [h1, h2]; rfl), rfl⟩

theorem sort1_any (u v : FV) (w : World) : Calls Tryd.prog 35 #[u.val, v.val] w fun e w' => e = .returned (.int .i64 (cmpI u.f.name v.f.name)) ∧ w' = (w.alloc (.cells u.cells.toArray 33)).alloc (.cells v.cells.toArray 33) := by
  obtain ⟨⟨un, um, ut, ub⟩, uA, ua, uc⟩ := u
  obtain ⟨⟨vn, vm, vt, vb⟩, vA, va, vc⟩ := v
  unfold FV.val fval FV.cells fcells
  dsimp only
  go_enter Tryd.func35, Tryd.ntmps35
  go_wp2_with (go_at_call 36; refine (cmp_any un vn _).mono ?_; rintro e w1 ⟨rfl, rfl⟩)
  go_ret
  exact ⟨rfl, rfl⟩

theorem vrd_flat {w : World} {a : Addr} {n : Nat} {vs : List FV} (h : VRd w (some a) n vs) : ∀ j u, (flat vs)[j]? = some u → w.cell? (a.add j) = some u := by
  intro j u hj
  have hjl : j < (flat vs).length := (List.getElem?_eq_some_iff.1 hj).1
  rw [length_flat] at hjl
  have hl := h.1
  obtain ⟨b, o, e, hc⟩ := h.2.2 (by omega)
  injection e with e
  subst e
  have e1 : (⟨b, o, none⟩ : Addr).add j = ⟨b, o + j / 4 * 4 + j % 4, none⟩ := by
    have h4 : j / 4 * 4 + j % 4 = j := by omega
    rw [Nat.add_assoc, h4]
    unfold Addr.add
    split <;> simp_all
  rw [e1]
  have hq : j / 4 < vs.length := by omega
  refine hc (j / 4) (by omega) (j % 4) u ?_
  have hcl : (vs.getD (j / 4) default).cells.length = 4 := rfl
  have hget : (vs.getD (j / 4) default).cells[j % 4]? = some ((vs.getD (j / 4) default).cells[j % 4]'(by rw [hcl]; omega)) := List.getElem?_eq_getElem _
  have := flat_at vs (j / 4) hq (j % 4) _ hget
  rw [show j / 4 * 4 + j % 4 = j by omega, hj] at this
  rw [hget, this]
/-- append of a row of files that is read -/
theorem wpList_append_rows {ops : Array Oper} {rest : List Oper} {o : Oper} {a : Act} {w : World} {Q : Exit → Act → World → Prop}
    (hg : o.guard = none) (s y : Operand) (ho : o.op = Op.call { callee := Callee.builtin Builtin.append, args := #[s, y], argTypes := #[23, 23] })
    (v : Value) (n m c : Nat) (A : Option Addr) (xs : List Value) (vs : List FV) (hs : a.eval s = v) (hy : a.eval y = .slice A m c) (hown : w.ownsRow 0 33 4 v n xs) (hr : VRd w A m vs) (hb : n + m ≤ 1000000000)
    (h : ∀ v' w', w'.ownsRow 0 33 4 v' (n + m) (xs ++ flat vs) → Grew v v' w w' → wpList Tryd.prog ops Q rest (a.put o.dst v') w') :
    wpList Tryd.prog ops Q (o :: rest) a w := by
  obtain ⟨i, hi, hz0, hz1, hz2⟩ := info_parts info33
  refine wpList_plain hg fun K hK => ?_
  cases A with
  | none =>
    have hm : m = 0 := by
      rcases Nat.eq_zero_or_pos m with h0 | h0
      · exact h0
      · obtain ⟨b, o', e, _⟩ := hr.2.2 h0
        cases e
    subst hm
    have hvs : vs = [] := List.eq_nil_of_length_eq_zero hr.1
    subst hvs
    have hrun : (Builtin.append_ #[23, 23] o.type #[v, .slice none 0 c]).run Tryd.prog w = .ok v w := by
      rcases hown.2 with ⟨rfl, rfl⟩ | ⟨g, cap, cur, rfl, _, _, hnc, _⟩
      · simp [Builtin.append_, run_underlying Tryd.underlying23, sizeOf, typeInfo, hi, Builtin.lenOf, Builtin.firstCells]
      · simp [Builtin.append_, run_underlying Tryd.underlying23, sizeOf, typeInfo, hi, Builtin.lenOf, Builtin.firstCells, hnc, storeCells]
    unfold Oper.wp execOp
    simp only [ho, resolve, invoke, builtin, Sem.run_bind, Sem.run_pure, Result.andThen_ok, List.map_toArray, List.map_cons, List.map_nil, hs, hy, hrun]
    exact hK _ _ (h v w (by simpa [flat] using hown) (Grew.refl _ _))
  | some ad =>
    obtain ⟨v', w', hrun, h2, h3, _, h5⟩ := run_append_own_at (P := Tryd.prog) w 0 23 o.type 33 i _ 4 56 Tryd.underlying23 hi hz0 hz1 hz2 rfl (by decide) v n xs hown ad m c (flat vs) (by rw [length_flat, hr.1])
      (vrd_flat hr) (by intro u hu; obtain ⟨x, _, hx⟩ := List.mem_flatMap.1 hu; exact one4 x u hx) (by unfold maxLen; omega) (by omega) (Nat.zero_le _)
    unfold Oper.wp execOp
    simp only [ho, resolve, invoke, builtin, Sem.run_bind, Sem.run_pure, Result.andThen_ok, List.map_toArray, List.map_cons, List.map_nil, hs, hy, hrun]
    exact hK _ _ (h v' w' h2 ⟨Fr.of_grown h3, h5.imp id fun e => ⟨_, e, Nat.le_refl _⟩⟩)

set_option maxRecDepth 20000 in
set_option maxHeartbeats 1000000 in
/-- slices.Clone of files: a row of the call's own of the same cells -/
theorem cloneF_any (vs : List FV) (A : Option Addr) (n c : Nat) (w : World) (hv : VRd w A n vs) (hn : n ≤ 1000000) :
    Calls Tryd.prog 32 #[.slice A n c] w fun e w' => ∃ v, e = .returned v ∧ w'.ownsRow 0 33 4 v n (flat vs) ∧ From w.heap.size v ∧ Below w.heap.size w w' := by
  have q23 : ∀ (w : World) (a : Option Addr) (n c n' c' : Nat), (binOp .eql 23 (.slice a n c) (.slice none n' c')).run Tryd.prog w = .ok (.bool a.isNone) w := fun w a n c n' c' => Lib.run_eql_slice_nil w _ _ a n c n' c' Tryd.underlying23
  cases A with
  | none =>
    have hm : n = 0 := by
      rcases Nat.eq_zero_or_pos n with h0 | h0
      · exact h0
      · obtain ⟨b, o', e, _⟩ := hv.2.2 h0
        cases e
    subst hm
    have hvs : vs = [] := List.eq_nil_of_length_eq_zero hv.1
    subst hvs
    go_enter Tryd.func32, Tryd.ntmps32
    go_wp2
    go_ret
    exact ⟨_, rfl, World.ownsRow_nil _ _ _ _, From.none _ _ _, Below.refl _ _⟩
  | some a =>
    have H := Lib.hid hv; clear hv
    have hlit : (w.alloc (.cells #[] 33)).ownsRow 0 33 4 (.slice (some ⟨w.heap.size, 0, none⟩) 0 0) 0 [] := World.ownsRow_lit w #[] 0 (Nat.zero_le _) (by decide) rfl
    have HLIT := Lib.hid hlit; clear hlit
    have HS : Hid (Same w (w.alloc (.cells #[] 33))) := (Fr.refl _ w).alloc _
    go_enter Tryd.func32, Tryd.ntmps32
    go_wp2_with (at_builtin; refine wpList_append_rows rfl (.tmp 5) (.tmp 6) rfl (.slice (some ⟨w.heap.size, 0, none⟩) 0 0) 0 n c (some a) [] vs rfl rfl HLIT.out (H.out.same (below_fr HS.out)) (by omega) ?_; intro v4 w4 hown hgr; have O4 := Lib.hid hown; have G4 := Lib.hid hgr; clear hown hgr)
    go_ret
    have hfrom : From w.heap.size (.slice (some ⟨w.heap.size, 0, none⟩) 0 0) := fun j hj => by simp [Value.ownBlock] at hj; omega
    refine ⟨v4, rfl, by have := O4.out; simpa using this, hfrom.grew G4.out (by simp), ?_⟩
    exact (below_fr HS.out).trans (G4.out.below hfrom (by simp))
end Go.Proofs.YtlgonkopojancaaDoor
