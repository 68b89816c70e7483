/- The reference's Find. -/
import Derived.Test.YtlgonkopojancaaDoorFxList
namespace Go.Proofs.YtlgonkopojancaaDoor
open Go.RowKit

def noneTo (fs : List Fi) (nm : ByteArray) (i : Nat) : Prop := ∀ j, j < i → (fs.getD j default).name ≠ nm
theorem find_at {fs : List Fi} {nm : ByteArray} {i : Nat} (h : noneTo fs nm i) (hi : i < fs.length) (he : (fs.getD i default).name = nm) : fs.find? (fun f => decide (f.name = nm)) = some (fs.getD i default) := by
  rw [List.find?_eq_some_iff_append]
  have hg : fs.getD i default = fs[i] := by rw [List.getD_eq_getElem?_getD, List.getElem?_eq_getElem hi]; rfl
  refine ⟨by simpa using he, fs.take i, fs.drop (i + 1), ?_, fun f hf => ?_⟩
  · rw [hg, List.getElem_cons_drop hi, List.take_append_drop]
  · obtain ⟨j, hj, rfl⟩ := List.getElem_of_mem hf
    rw [List.length_take] at hj
    have := h j (by omega)
    rw [List.getD_eq_getElem?_getD, List.getElem?_eq_getElem (by omega)] at this
    rw [List.getElem_take]
    simpa using this
theorem find_no {fs : List Fi} {nm : ByteArray} {i : Nat} (h : noneTo fs nm i) (hi : fs.length ≤ i) : fs.find? (fun f => decide (f.name = nm)) = none := by
  rw [List.find?_eq_none]
  intro f hf
  obtain ⟨j, hj, rfl⟩ := List.getElem_of_mem hf
  have := h j (by omega)
  rw [List.getD_eq_getElem?_getD, List.getElem?_eq_getElem hj] at this
  simpa using this
set_option maxRecDepth 20000 in
set_option maxHeartbeats 2000000 in
theorem rfind_any (fs : List Fi) (A : Option Addr) (n c : Nat) (nm : ByteArray) (w : World) (hf : FRd w A n fs) :
    Calls Tryd.prog 21 #[.slice A n c, .string nm] w fun e w' => FindPost fs nm e w' ∧ Below w.heap.size w w' := by
  have HF := Lib.hid hf; clear hf
  have n63 : (n : Int) ≤ 9223372036854775807 := by have := HF.out.2.1; omega
  obtain ⟨h, hh⟩ : ∃ h, w.heap.size = h := ⟨_, rfl⟩
  have HH := Lib.hid hh; clear hh
  go_enter Tryd.func21, Tryd.ntmps21
  go_wp2_with fail
  rw [HH.out]
  go_loopw [6] (fun v6 wr => ∃ i : Nat, v6 = .int .i64 i ∧ (i : Int) ≤ n ∧ Hid (noneTo fs nm i) ∧ Hid (Below w.heap.size w wr) ∧ Hid (wr.heap[h]? = some (.cells #[.string ⟨#[]⟩, .int .u32 0, .int .i64 0, .slice none 0 0] 33 (0, 0)))) (fun v6 _ => n - (intOf v6).toNat)
  case atStart =>
    refine ⟨0, rfl, by omega, fun j hj => absurd hj (Nat.not_lt_zero _), ?_, ?_⟩
    · exact below_fr ((Fr.refl _ w).alloc _)
    · rw [← HH.out]; exact blk_new w _
  case round =>
    obtain ⟨i, rfl, hi, HN, HB, HG⟩ := hrel
    have hg0 := HG.out
    have hc0 : wr.cell? ⟨h, 0, none⟩ = some (.string ⟨#[]⟩) := by rw [blk_cell hg0]; rfl
    have hc1 : wr.cell? ⟨h, 1, none⟩ = some (.int .u32 0) := by rw [blk_cell hg0]; rfl
    have hc2 : wr.cell? ⟨h, 2, none⟩ = some (.int .i64 0) := by rw [blk_cell hg0]; rfl
    have hc3 : wr.cell? ⟨h, 3, none⟩ = some (.slice none 0 0) := by rw [blk_cell hg0]; rfl
    have hf0 := fun i => blk_frozen hg0 i
    clear hg0
    by_cases hin : (i : Int) < n
    · obtain ⟨b, o, A1, n1, c1, rfl, hr1, hl1⟩ := HF.out.load (j := i) (by omega)
      obtain ⟨k0, k1, k2, k3⟩ := hl1 wr HB.out
      obtain ⟨f, hfe⟩ : ∃ f, fs.getD i default = f := ⟨_, rfl⟩
      rw [hfe] at k0 k1 k2 hr1
      have HR := Lib.hid hr1; have HFE := Lib.hid hfe
      clear hl1 hr1 hfe
      by_cases he : f.name = nm
      · subst he
        go_wp2_with fail
        have hh := HH.out
        have hbel : Below w.heap.size w ((((wr.setCell ⟨h, 0, none⟩ (.string f.name)).setCell ⟨h, 1, none⟩ (.int .u32 f.mode)).setCell ⟨h, 2, none⟩ (.int .i64 f.time)).setCell ⟨h, 3, none⟩ (.slice A1 n1 c1)) :=
          (((HB.out.setCell (p := ⟨h, 0, none⟩) (Nat.le_of_eq hh) _).setCell (p := ⟨h, 1, none⟩) (Nat.le_of_eq hh) _).setCell (p := ⟨h, 2, none⟩) (Nat.le_of_eq hh) _).setCell (p := ⟨h, 3, none⟩) (Nat.le_of_eq hh) _
        refine bodyPost_ret (v := .tuple #[fval f A1 n1 c1, .bool true]) (by simp [results, Tryd.results21, go_sem, hc0, hc1, hc2, hc3]; rfl) rfl ⟨?_, hbel⟩
        unfold FindPost
        rw [find_at HN.out (by have := HF.out.1; omega) (by rw [HFE.out]), HFE.out]
        exact ⟨A1, n1, c1, rfl, HR.out.same hbel⟩
      · have h5 : (f.name.toList == nm.toList) = false := beq_eq_false_iff_ne.2 fun e => he (bytes_ext _ _ (by rw [← ByteArray.toList_eq, ← ByteArray.toList_eq, e]))
        have HNE := Lib.hid he
        clear he
        go_wp2_with fail
        go_roundw
        case rel => exact ⟨i + 1, by go_num, by omega, (fun j hj => by
            by_cases hji : j < i
            · exact HN.out j hji
            · have : j = i := by omega
              subst this
              rw [HFE.out]; exact HNE.out : noneTo fs nm (i + 1)), HB.out, HG.out⟩
        case measure => simp [intOf]; omega
    · go_wp2_with fail
      have hh := HH.out
      have hbel : Below w.heap.size w ((((wr.setCell ⟨h, 0, none⟩ (.string ⟨#[]⟩)).setCell ⟨h, 1, none⟩ (.int .u32 0)).setCell ⟨h, 2, none⟩ (.int .i64 0)).setCell ⟨h, 3, none⟩ (.slice none 0 0)) :=
        (((HB.out.setCell (p := ⟨h, 0, none⟩) (Nat.le_of_eq hh) _).setCell (p := ⟨h, 1, none⟩) (Nat.le_of_eq hh) _).setCell (p := ⟨h, 2, none⟩) (Nat.le_of_eq hh) _).setCell (p := ⟨h, 3, none⟩) (Nat.le_of_eq hh) _
      refine bodyPost_ret (v := .tuple #[fval default none 0 0, .bool false]) (by simp [results, Tryd.results21, go_sem, hc0, hc1, hc2, hc3]; rfl) rfl ⟨?_, hbel⟩
      unfold FindPost
      rw [find_no HN.out (by have := HF.out.1; omega)]
end Go.Proofs.YtlgonkopojancaaDoor
