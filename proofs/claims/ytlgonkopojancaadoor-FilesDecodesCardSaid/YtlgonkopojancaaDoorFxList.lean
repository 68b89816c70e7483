/- The walk of List. -/
import Derived.Test.YtlgonkopojancaaDoorFxFind
import Derived.Test.YtlgonkopojancaaDoorFxSame
namespace Go.Proofs.YtlgonkopojancaaDoor
open Go.RowKit

theorem news_cells (w : World) (ys : List Value) (e : TypeId) : ∀ j u, ys[j]? = some u → (w.alloc (.cells ys.toArray e)).cell? ((⟨w.heap.size, 0, none⟩ : Addr).add j) = some u := by
  intro j u hj
  have e1 : (⟨w.heap.size, 0, none⟩ : Addr).add j = ⟨w.heap.size, j, none⟩ := by unfold Addr.add; split <;> simp_all
  rw [e1, blk_cell (blk_new w _)]
  simpa using hj

/-- append of one element of several cells onto a row of the call's own, in a walk -/
theorem wpList_append_cells {P : Program} {ops : Array Oper} {rest : List Oper} {o : Oper} {a : Act} {w0 : World} {Q : Exit → Act → World → Prop} {ys : List Value} {e : TypeId}
    (hg : o.guard = none) (s y : Operand) (t : TypeId) (ho : o.op = Op.call { callee := Callee.builtin Builtin.append, args := #[s, y], argTypes := #[t, t] })
    (i : TypeInfo) (z : Value) (size bytes : Nat) (ht : P.underlying t = some (.slice e)) (hi : P.info? e = some i) (hz : i.zero = some z) (hsize : i.size = size) (hby : i.bytes = bytes) (hzs : z.cells.size = size) (hsz : 0 < size)
    (v : Value) (n : Nat) (xs : List Value) (hs : a.eval s = v) (hy : a.eval y = .slice (some ⟨w0.heap.size, 0, none⟩) 1 1) (hown : w0.ownsRow 0 e size v n xs) (hl : ys.length = size) (hx1 : ∀ u ∈ ys, u.oneCell' = true) (hb0 : 0 < bytes) (hbytes : (n + 1) * bytes ≤ 140737488355328)
    (h : ∀ v' w', w'.ownsRow 0 e size v' (n + 1) (xs ++ ys) → Grew v v' w0 w' → wpList P ops Q rest (a.put o.dst v') w') :
    wpList P ops Q (o :: rest) a (w0.alloc (.cells ys.toArray e)) := by
  have hlen : n + 1 ≤ 140737488355328 := Nat.le_trans (Nat.le_mul_of_pos_right _ hb0) hbytes
  refine wpList_append_own_at _ hg s y t ho 0 e i z size bytes ht hi hz hsize hby hzs hsz v n xs hs (hown.alloc _) ⟨w0.heap.size, 0, none⟩ 1 1 ys hy (by rw [hl]; simp) (news_cells w0 ys e) hx1 (by simp only [maxLen]; omega) hbytes (Nat.zero_le _) ?_
  intro v' w' h1 h2 _ h4
  refine h v' w' h1 ⟨((Fr.refl (fun _ => False) w0).alloc _).trans (Fr.of_grown h2) (fun _ _ h => h.elim) (fun _ _ h => h), ?_⟩
  rcases h4 with h4 | h4
  · exact .inl h4
  · exact .inr ⟨_, h4, by simp⟩
/-- as wpList_append_cells; where the new block lies is a number of one's own -/
theorem wpList_append_cellsH {P : Program} {ops : Array Oper} {rest : List Oper} {o : Oper} {a : Act} {w0 : World} {Q : Exit → Act → World → Prop} {ys : List Value} {e : TypeId} (H : Nat) (hH : w0.heap.size = H)
    (hg : o.guard = none) (s y : Operand) (t : TypeId) (ho : o.op = Op.call { callee := Callee.builtin Builtin.append, args := #[s, y], argTypes := #[t, t] })
    (i : TypeInfo) (z : Value) (size bytes : Nat) (ht : P.underlying t = some (.slice e)) (hi : P.info? e = some i) (hz : i.zero = some z) (hsize : i.size = size) (hby : i.bytes = bytes) (hzs : z.cells.size = size) (hsz : 0 < size)
    (v : Value) (n : Nat) (xs : List Value) (hs : a.eval s = v) (hy : a.eval y = .slice (some ⟨H, 0, none⟩) 1 1) (hown : w0.ownsRow 0 e size v n xs) (hl : ys.length = size) (hx1 : ∀ u ∈ ys, u.oneCell' = true) (hb0 : 0 < bytes) (hbytes : (n + 1) * bytes ≤ 140737488355328)
    (h : ∀ v' w', w'.ownsRow 0 e size v' (n + 1) (xs ++ ys) → Grew v v' w0 w' → wpList P ops Q rest (a.put o.dst v') w') :
    wpList P ops Q (o :: rest) a (w0.alloc (.cells ys.toArray e)) := by
  subst hH
  exact wpList_append_cells hg s y t ho i z size bytes ht hi hz hsize hby hzs hsz v n xs hs hy hown hl hx1 hb0 hbytes h
theorem From.grew {B : Nat} {v v' : Value} {w w' : World} (h : From B v) (g : Grew v v' w w') (hB : B ≤ w.heap.size) : From B v' := fun j hj => by
  rcases g.loc with l | ⟨i, l, hi⟩
  · rw [l] at hj; exact h j hj
  · rw [l] at hj; injection hj with hj; omega
theorem Grew.below {B : Nat} {v v' : Value} {w w' : World} (g : Grew v v' w w') (h : From B v) (hB : B ≤ w.heap.size) : Below B w w' := g.fr.below B hB (fun k hk e => by have := h k e.symm; omega)
theorem own_cellsN {w : World} {base n sz : Nat} {e : TypeId} {v : Value} {xs : List Value} (h : w.ownsRow base e sz v n xs) (hn : 0 < n) : ∃ b c, v = .slice (some ⟨b, 0, none⟩) n c ∧ ∀ j u, xs[j]? = some u → w.cell? ⟨b, j, none⟩ = some u := by
  rcases h.2 with ⟨rfl, rfl⟩ | ⟨g, cap, cur, rfl, _⟩
  · omega
  · refine ⟨g, cap, rfl, fun j u hj => ?_⟩
    have := h.cells (g := g) (by simp [Value.ownBlock]) j u hj
    rw [← this]
    congr 1
    unfold Addr.add
    split <;> simp_all

def flat (vs : List FV) : List Value := vs.flatMap FV.cells
theorem flat_cons (v : FV) (vs : List FV) : flat (v :: vs) = v.cells ++ flat vs := by simp [flat]
theorem flat_snoc (vs : List FV) (v : FV) : flat (vs ++ [v]) = flat vs ++ v.cells := by simp [flat]
theorem flat_append (vs us : List FV) : flat (vs ++ us) = flat vs ++ flat us := by simp [flat]
theorem length_flat : ∀ vs : List FV, (flat vs).length = vs.length * 4
  | [] => rfl
  | v :: vs => by rw [flat_cons, List.length_append, length_flat vs, FV.length_cells, List.length_cons]; omega
theorem flat_at : ∀ (vs : List FV) (j : Nat) (_ : j < vs.length) (i : Nat) (u : Value), (vs.getD j default).cells[i]? = some u → (flat vs)[j * 4 + i]? = some u
  | v :: vs, 0, _, i, u, h => by
    rw [flat_cons, Nat.zero_mul, Nat.zero_add, List.getElem?_append_left]
    · exact h
    · exact (List.getElem?_eq_some_iff.1 h).1
  | v :: vs, j + 1, hj, i, u, h => by
    rw [flat_cons, List.getElem?_append_right (by rw [FV.length_cells]; omega), FV.length_cells, show (j + 1) * 4 + i - 4 = j * 4 + i by omega]
    exact flat_at vs j (by simp at hj; omega) i u h
theorem one4 (v : FV) : ∀ u ∈ v.cells, u.oneCell' = true := by
  intro u hu
  unfold FV.cells fcells at hu
  simp at hu
  rcases hu with rfl | rfl | rfl | rfl <;> rfl
theorem own_vrd {w : World} {base n : Nat} {v : Value} {vs : List FV} (h : w.ownsRow base 33 4 v n (flat vs)) (hn : n ≤ 9223372036854775807) : ∃ A c, v = .slice A n c ∧ VRd w A n vs := by
  have hl : vs.length = n := by have := h.1; rw [length_flat] at this; omega
  obtain ⟨A, c, rfl⟩ := own_shape h
  refine ⟨A, c, rfl, hl, hn, fun h0 => ?_⟩
  obtain ⟨b, c', e, hc⟩ := own_cellsN h h0
  injection e with e1 e2 e3
  refine ⟨b, 0, e1, fun j hj i u hu => ?_⟩
  rw [Nat.zero_add]
  exact hc _ _ (flat_at vs j (by omega) i u hu)
theorem info33 : (Tryd.prog.info? 33).map (fun i => (i.zero, i.size, i.bytes)) = some (some (.agg #[.string ⟨#[]⟩, .int .u32 0, .int .i64 0, .slice none 0 0]), 4, 56) := by kernel_rfl

/-- without what is in it -/
def Fi.bare (f : Fi) : Fi := { f with body := [] }
def bareV (f : Fi) : FV := ⟨f.bare, none, 0, 0⟩

set_option maxRecDepth 20000 in
set_option maxHeartbeats 2000000 in
theorem list_any (fs : List Fi) (A : Option Addr) (n c : Nat) (w : World) (hf : FRd w A n fs) (hn : n ≤ 1000000) :
    Calls Tryd.prog 18 #[.slice A n c] w fun e w' => ∃ v, e = .returned v ∧ w'.ownsRow 0 33 4 v n (flat (fs.map bareV)) ∧ From w.heap.size v ∧ Below w.heap.size w w' := by
  obtain ⟨i33, hi, hz0, hz1, hz2⟩ := info_parts info33
  have hi33 := And.intro hi (And.intro hz0 (And.intro hz1 hz2))
  have HI := Lib.hid hi33; clear hi hz0 hz1 hz2 hi33
  have HF := Lib.hid hf; clear hf
  have hl := HF.out.1
  have HL := Lib.hid hl; clear hl
  go_enter Tryd.func18, Tryd.ntmps18
  go_wp2
  go_loopw [2, 4, 7] (fun v2 _ v7 wr => ∃ k : Nat, v7 = .int .i64 k ∧ Hid (k ≤ n) ∧ Hid (wr.ownsRow 0 33 4 v2 k (flat ((fs.take k).map bareV))) ∧ Hid (From w.heap.size v2) ∧ Hid (Below w.heap.size w wr)) (fun _ _ v7 _ => n - (intOf v7).toNat)
  case atStart => exact ⟨0, rfl, Nat.zero_le _, World.ownsRow_nil _ _ _ _, From.none _ _ _, Below.refl _ _⟩
  case round =>
    obtain ⟨k, rfl, HK, HO, HV, HB⟩ := hrel
    obtain ⟨Ao, ko, rfl⟩ := own_shape HO.out
    by_cases hk : (k : Int) < n
    · obtain ⟨b, o, A1, n1, c1, rfl, hr1, hc1⟩ := (HF.out.same HB.out).load (j := k) (by omega)
      have hs := hc1 wr (Below.refl _ _)
      obtain ⟨f, hfe⟩ : ∃ f, fs.getD k default = f := ⟨_, rfl⟩
      rw [hfe] at hs
      obtain ⟨fn, fm, ft, fb⟩ := f
      obtain ⟨q0, q1, q2, q3⟩ := hs
      have HFE := Lib.hid hfe
      clear hc1 hr1 hfe
      go_wp2_with (at_builtin; refine wpList_append_cellsH (ys := [.string fn, .int .u32 fm, .int .i64 ft, .slice none 0 0]) (wr.heap.size + 1) (by simp) rfl (.tmp 12) (.tmp 14) 23 rfl i33 _ 4 56 Tryd.underlying23 HI.out.1 HI.out.2.1 HI.out.2.2.1 HI.out.2.2.2 rfl (by decide) (.slice Ao k ko) k (flat ((fs.take k).map bareV)) rfl rfl (HO.out.alloc _) rfl (one4 (bareV ⟨fn, fm, ft, fb⟩)) (by decide) (by omega) ?_; intro v4 w4 hown hgr; obtain ⟨A4, k4, rfl⟩ := own_shape hown; have O4 := Lib.hid hown; have G4 := Lib.hid hgr; clear hown hgr)
      go_roundw
      case rel =>
        have hS : Same wr (wr.alloc (.cells #[.string fn, .int .u32 fm, .int .i64 ft, .slice none 0 0] 33)) := (Fr.refl _ wr).alloc _
        have hg := Grew.pre hS G4.out
        refine ⟨k + 1, by go_num, (by omega : k + 1 ≤ n), ?_, HV.out.grew hg HB.out.size, HB.out.trans (hg.below HV.out HB.out.size)⟩
        show World.ownsRow _ _ _ _ _ _ _
        have ht : fs.take (k + 1) = fs.take k ++ [⟨fn, fm, ft, fb⟩] := by
          have hkl : k < fs.length := by have := HL.out; omega
          have := HFE.out
          rw [List.getD_eq_getElem?_getD, List.getElem?_eq_getElem hkl, Option.getD_some] at this
          rw [List.take_succ_eq_append_getElem hkl, this]
        rw [ht, List.map_append, flat_append]
        exact O4.out
      case measure => simp [intOf]; omega
    · have hkn : k = n := by have := HK.out; omega
      subst hkn
      have ht : fs.take k = fs := List.take_of_length_le (by have := HL.out; omega)
      rw [ht] at HO
      go_wp2_with fail
      go_ret
      exact ⟨_, rfl, HO.out, HV.out, HB.out⟩
end Go.Proofs.YtlgonkopojancaaDoor
