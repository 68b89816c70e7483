/- The walk of Find. -/
import Derived.Test.YtlgonkopojancaaDoorFxRows
namespace Go.Proofs.YtlgonkopojancaaDoor
open Go.RowKit

theorem tl_ne {x y : ByteArray} (h : ¬ x = y) : ¬ x.toList = y.toList := fun e => h (bytes_ext _ _ (by rw [← ByteArray.toList_eq, ← ByteArray.toList_eq, e]))
theorem isAgg33 : ∀ w, (isAgg 33).run Tryd.prog w = .ok true w := Tryd.isAgg33
theorem sizeOf33 : ∀ w, (Go.sizeOf 33).run Tryd.prog w = .ok 4 w := Tryd.sizeOf33

theorem find1_any (v : FV) (nm : ByteArray) (g : Nat) (w : World) (hg : w.cell? ⟨g, 0, none⟩ = some (.string nm)) :
    Calls Tryd.prog 38 #[v.val, .pointer (some ⟨g, 0, none⟩)] w fun e w' => e = .returned (.bool (decide (v.f.name = nm))) ∧ Below w.heap.size w w' := by
  obtain ⟨f, A, n, c⟩ := v
  obtain ⟨fn, fm, ft, fb⟩ := f
  unfold FV.val fval
  dsimp only
  have hlt := World.block_lt_of_cell? w _ hg
  have hlt' : g < w.heap.size := hlt
  have hg2 := World.cell?_alloc_old w (.cells #[.string fn, .int .u32 fm, .int .i64 ft, .slice A n c] 33) ⟨g, 0, none⟩ (Nat.ne_of_lt hlt)
  rw [hg] at hg2
  have HS : Hid (Same w (w.alloc (.cells #[.string fn, .int .u32 fm, .int .i64 ft, .slice A n c] 33))) := (Fr.refl _ w).alloc _
  go_enter Tryd.func38, Tryd.ntmps38
  go_wp2
  go_ret
  exact ⟨ret_bool (arr_beq fn nm), below_fr HS.out⟩

theorem idx_empty (A : Option Addr) (c : Nat) (fv : Value) (w : World) : Calls Tryd.prog 37 #[.slice A 0 c, fv] w fun e w' => e = .returned (.int .i64 (-1)) ∧ w' = w := by
  go_enter Tryd.func37, Tryd.ntmps37
  go_wp2
  refine wp_loop_rounds 1 ?_
  rw [rounds_succ]
  go_wp2
  go_ret
  exact ⟨rfl, rfl⟩

theorem idx_any (vs : List FV) (A : Option Addr) (n c : Nat) (nm : ByteArray) (g : Nat) (w : World) (hv : VRd w A n vs) (hg : w.cell? ⟨g, 0, none⟩ = some (.string nm)) :
    Calls Tryd.prog 37 #[.slice A n c, .func (.func 38) #[] #[.pointer (some ⟨g, 0, none⟩)]] w fun e w' => e = .returned (.int .i64 (Lib.idxBy (fun _ (y : FV) => decide (y.f.name = nm)) vs default)) ∧ Below w.heap.size w w' := by
  have e38 : ∀ args w, (callFunc 38 args).run Tryd.prog w = .ok (.enter 38 args) w := enters_of Tryd.func38 (by kernel_rfl) rfl
  rcases Nat.eq_zero_or_pos n with h0 | h0
  · subst h0
    have : vs = [] := List.eq_nil_of_length_eq_zero hv.1
    subst this
    refine (idx_empty A c _ w).mono ?_
    rintro e w' ⟨rfl, rfl⟩
    exact ⟨rfl, Below.refl _ _⟩
  · obtain ⟨b, o, rfl, hc⟩ := hv.2.2 h0
    have hlt := World.block_lt_of_cell? w _ hg
    have key := AnyQ.slices_IndexFunc Tryd.lif 4 isAgg33 sizeOf33 FV.cells FV.length_cells (fun v => decide (v.f.name = nm)) 38 #[.pointer (some ⟨g, 0, none⟩)] e38 b o n c vs w
      (fun W x hW => (find1_any x nm g W (by rw [hW.cell hlt]; exact hg)).mono fun e w' ⟨h1, h2⟩ => ⟨h1, hW.trans (h2.mono hW.size)⟩) (Nat.le_of_eq hv.1.symm) hv.2.1 (by have := hc 0 h0 0 _ rfl; exact World.block_lt_of_cell? w _ this)
      (fun j hj i v h => by
        rw [getElem!_pos vs j hj] at h
        refine hc j (by have := hv.1; omega) i v ?_
        rw [List.getD_eq_getElem?_getD, List.getElem?_eq_getElem hj]
        exact h)
    have e1 : vs.take n = vs := List.take_of_length_le (Nat.le_of_eq hv.1)
    rw [e1] at key
    exact key

def FindPost (fs : List Fi) (nm : ByteArray) (e : Ending) (w' : World) : Prop :=
  match fs.find? (fun f => decide (f.name = nm)) with
  | some f => ∃ A n c, e = .returned (.tuple #[fval f A n c, .bool true]) ∧ Reads w' .u8 A n f.body
  | none => e = .returned (.tuple #[fval default none 0 0, .bool false])

set_option maxRecDepth 20000 in
set_option maxHeartbeats 2000000 in
theorem find_any (fs : List Fi) (A : Option Addr) (n c : Nat) (nm : ByteArray) (w : World) (hf : FRd w A n fs) (hb : ∀ f ∈ fs, f.body.length ≤ 140737488355328) :
    Calls Tryd.prog 20 #[.slice A n c, .string nm] w fun e w' => FindPost fs nm e w' ∧ Below w.heap.size w w' := by
  obtain ⟨vs, rfl, hv, hbod⟩ := hf.choose
  obtain ⟨W, hW⟩ : ∃ W, (w.alloc (.cells #[.string nm] 9)).alloc (.cells #[.string ⟨#[]⟩, .int .u32 0, .int .i64 0, .slice none 0 0] 33) = W := ⟨_, rfl⟩
  have hS : Same w W := by rw [← hW]; exact ((Fr.refl _ w).alloc _).alloc _
  have hsz : W.heap.size = w.heap.size + 2 := by rw [← hW]; simp
  have hg : W.cell? ⟨w.heap.size, 0, none⟩ = some (.string nm) := by
    have := blk_alloc (blk_new w (.cells #[.string nm] 9)) (.cells #[.string ⟨#[]⟩, .int .u32 0, .int .i64 0, .slice none 0 0] 33)
    rw [hW] at this
    rw [blk_cell this]; rfl
  have hr : W.heap[w.heap.size + 1]? = some (.cells #[.string ⟨#[]⟩, .int .u32 0, .int .i64 0, .slice none 0 0] 33 (0, 0)) := by
    have := blk_new (w.alloc (.cells #[.string nm] 9)) (.cells #[.string ⟨#[]⟩, .int .u32 0, .int .i64 0, .slice none 0 0] 33)
    rw [hW] at this
    rw [← this]
    congr 1
    simp
  have HI := Lib.hid (idx_any vs A n c nm w.heap.size W (hv.same (below_fr hS)) hg)
  have HV := Lib.hid hv; have HBOD := Lib.hid hbod; have HS := Lib.hid hS; have HR := Lib.hid hr; have HSZ := Lib.hid hsz; have HW := Lib.hid hW; have HB := Lib.hid hb
  rw [← hW] at HI HS HR HSZ
  clear hf hv hbod hS hr hg hsz hb
  rcases idx_of (fun v : FV => decide (v.f.name = nm)) vs default with ⟨i, hi, hp, hbef, hidx⟩ | ⟨hno, hidx⟩
  · rw [hidx] at HI
    clear hW HW
    have hin : i < n := by have := HV.out.1; omega
    obtain ⟨b, o, rfl, hc⟩ := HV.out.2.2 (by omega)
    have hci := hc i hin
    rw [List.getD_eq_getElem?_getD, List.getElem?_eq_getElem hi] at hci
    have hbw : b < w.heap.size := World.block_lt_of_cell? w _ (hci 0 _ rfl)
    obtain ⟨v, hve⟩ : ∃ v, vs[i] = v := ⟨_, rfl⟩
    have hbd := HBOD.out _ (List.getElem_mem hi)
    have hbl := HB.out _ (List.mem_map_of_mem (List.getElem_mem hi))
    simp only [Option.getD_some] at hci
    rw [hve] at hci hbd hbl hp
    obtain ⟨f, A', n', c'⟩ := v
    obtain ⟨fn, fm, ft, fb⟩ := f
    have q0 := hci 0 _ rfl; have q1 := hci 1 _ rfl; have q2 := hci 2 _ rfl; have q3 := hci 3 _ rfl
    simp only [Nat.add_zero] at q0
    have hiI : (i : Int) < (n : Int) := by omega
    have h0i : (0 : Int) ≤ (i : Int) := by omega
    have HVE := Lib.hid hve; have HBD := Lib.hid hbd; have HBL := Lib.hid hbl; have HP := Lib.hid hp; have HBF := Lib.hid hbef
    have HQ := Lib.hid (And.intro q0 (And.intro q1 (And.intro q2 q3)))
    clear hc hci hve hbd hbl hp hbef q0 q1 q2 q3
    go_enter Tryd.func20, Tryd.ntmps20
    go_wp2_with fail
    refine HI.out.mono ?_
    rintro e w1 ⟨rfl, hbel⟩
    have HB1 := Lib.hid hbel
    have hr1 := (hbel.block (w.heap.size + 1) (by rw [HSZ.out]; omega)).trans HR.out
    have HR1 := Lib.hid hr1
    have h1 : Below w.heap.size w w1 := (below_fr HS.out).trans (hbel.mono HS.out.size)
    have H1 := Lib.hid h1
    have q0 := (h1.cell (p := ⟨b, o + i * 4, none⟩) hbw).trans HQ.out.1
    have q1 := (h1.cell (p := ⟨b, o + i * 4 + 1, none⟩) hbw).trans HQ.out.2.1
    have q2 := (h1.cell (p := ⟨b, o + i * 4 + 2, none⟩) hbw).trans HQ.out.2.2.1
    have q3 := (h1.cell (p := ⟨b, o + i * 4 + 3, none⟩) hbw).trans HQ.out.2.2.2
    clear hbel hr1 h1
    go_wp2_with fail
    refine (clone_any A' n' c' fb (w1.alloc (.cells #[.string fn, .int .u32 fm, .int .i64 ft, .slice A' n' c'] 33)) (HBD.out.same (H1.out.alloc H1.out.size _)) (by have h1 : fb.length = n' := HBD.out.1; have h2 : fb.length ≤ 140737488355328 := HBL.out; omega)).mono ?_
    rintro e w2 ⟨v2, rfl, ho2, hf2, hb2⟩
    have hblk := (hb2.block w1.heap.size (by simp)).trans (blk_new w1 _)
    have k0 : w2.cell? ⟨w1.heap.size, 0, none⟩ = some (.string fn) := by rw [blk_cell hblk]; rfl
    have k1 : w2.cell? ⟨w1.heap.size, 1, none⟩ = some (.int .u32 fm) := by rw [blk_cell hblk]; rfl
    have k2 : w2.cell? ⟨w1.heap.size, 2, none⟩ = some (.int .i64 ft) := by rw [blk_cell hblk]; rfl
    have k3 : w2.cell? ⟨w1.heap.size, 3, none⟩ = some (.slice A' n' c') := by rw [blk_cell hblk]; rfl
    have g3 := blk_frozen hblk 3
    have hlt1 : w.heap.size + 1 < w1.heap.size := (Array.getElem?_eq_some_iff.1 HR1.out).1
    have hr2 := (hb2.block (w.heap.size + 1) (by simp; omega)).trans (blk_alloc HR1.out _)
    have d0 : w2.cell? ⟨w.heap.size + 1, 0, none⟩ = some (.string ⟨#[]⟩) := by rw [blk_cell hr2]; rfl
    have d1 : w2.cell? ⟨w.heap.size + 1, 1, none⟩ = some (.int .u32 0) := by rw [blk_cell hr2]; rfl
    have d2 : w2.cell? ⟨w.heap.size + 1, 2, none⟩ = some (.int .i64 0) := by rw [blk_cell hr2]; rfl
    have d3 : w2.cell? ⟨w.heap.size + 1, 3, none⟩ = some (.slice none 0 0) := by rw [blk_cell hr2]; rfl
    have f0 := blk_frozen hr2 0
    have f1 := blk_frozen hr2 1
    have f2 := blk_frozen hr2 2
    have f3 := blk_frozen hr2 3
    have hne : ¬ w1.heap.size = w.heap.size + 1 := by omega
    have hne' : ¬ w.heap.size + 1 = w1.heap.size := by omega
    obtain ⟨A2, c2, rfl⟩ := own_shape ho2
    have HO2 := Lib.hid ho2; have HF2 := Lib.hid hf2; have HB2 := Lib.hid hb2
    clear ho2 hf2 hb2 hblk hr2
    go_wp2
    refine bodyPost_ret (v := .tuple #[fval ⟨fn, fm, ft, fb⟩ A2 n' c2, .bool true]) (by simp [results, Tryd.results20, go_sem, d0, d1, d2, d3]; rfl) rfl ?_
    have hbw2 : Below w.heap.size w w2 := (H1.out.alloc H1.out.size _).trans (HB2.out.mono (by simp; have := H1.out.size; omega))
    have hfar : ∀ {j : Nat} (u : Value) (W : World), Same w2 W → Same w2 W := fun _ _ h => h
    have hne2 : ∀ k, (Value.slice A2 n' c2).ownBlock = some k → k ≠ w1.heap.size ∧ k ≠ w.heap.size + 1 := fun k hk => by
      have := HF2.out k hk
      simp at this
      omega
    have o1 := ownsRow_setCell_other HO2.out (a := ⟨w1.heap.size, 3, none⟩) (fun h => (hne2 _ h).1 rfl) (.slice A2 n' c2)
    have o2 := ownsRow_setCell_other o1 (a := ⟨w.heap.size + 1, 0, none⟩) (fun h => (hne2 _ h).2 rfl) (.string fn)
    have o3 := ownsRow_setCell_other o2 (a := ⟨w.heap.size + 1, 1, none⟩) (fun h => (hne2 _ h).2 rfl) (.int .u32 fm)
    have o4 := ownsRow_setCell_other o3 (a := ⟨w.heap.size + 1, 2, none⟩) (fun h => (hne2 _ h).2 rfl) (.int .i64 ft)
    have o5 := ownsRow_setCell_other o4 (a := ⟨w.heap.size + 1, 3, none⟩) (fun h => (hne2 _ h).2 rfl) (.slice A2 n' c2)
    refine ⟨?_, ?_⟩
    · unfold FindPost
      have hfind : (vs.map FV.f).find? (fun f => decide (f.name = nm)) = some ⟨fn, fm, ft, fb⟩ := by
        rw [List.find?_eq_some_iff_getElem]
        refine ⟨HP.out, i, by simpa using hi, ?_, fun j hj => ?_⟩
        · rw [List.getElem_map, HVE.out]
        · rw [List.getElem_map]
          have := HBF.out j hj
          simpa using this
      rw [hfind]
      obtain ⟨A3, c3, e3, r3⟩ := own_reads o5
      injection e3 with e3 e4 e5
      subst e3
      exact ⟨A2, n', c2, rfl, r3⟩
    · exact ((((hbw2.setCell (p := ⟨w1.heap.size, 3, none⟩) (by show w.heap.size ≤ w1.heap.size; omega) _).setCell (p := ⟨w.heap.size + 1, 0, none⟩) (Nat.le_succ _) _).setCell (p := ⟨w.heap.size + 1, 1, none⟩) (Nat.le_succ _) _).setCell (p := ⟨w.heap.size + 1, 2, none⟩) (Nat.le_succ _) _).setCell (p := ⟨w.heap.size + 1, 3, none⟩) (Nat.le_succ _) _
  · rw [hidx] at HI
    clear hW HW
    go_enter Tryd.func20, Tryd.ntmps20
    go_wp2_with fail
    refine HI.out.mono ?_
    rintro e w1 ⟨rfl, hbel⟩
    have HB1 := Lib.hid hbel
    have hr1 := (hbel.block (w.heap.size + 1) (by rw [HSZ.out]; omega)).trans HR.out
    have d0 : w1.cell? ⟨w.heap.size + 1, 0, none⟩ = some (.string ⟨#[]⟩) := by rw [blk_cell hr1]; rfl
    have d1 : w1.cell? ⟨w.heap.size + 1, 1, none⟩ = some (.int .u32 0) := by rw [blk_cell hr1]; rfl
    have d2 : w1.cell? ⟨w.heap.size + 1, 2, none⟩ = some (.int .i64 0) := by rw [blk_cell hr1]; rfl
    have d3 : w1.cell? ⟨w.heap.size + 1, 3, none⟩ = some (.slice none 0 0) := by rw [blk_cell hr1]; rfl
    have f0 := blk_frozen hr1 0
    have f1 := blk_frozen hr1 1
    have f2 := blk_frozen hr1 2
    have f3 := blk_frozen hr1 3
    clear hbel hr1
    go_wp2
    refine bodyPost_ret (v := .tuple #[fval default none 0 0, .bool false]) (by simp [results, Tryd.results20, go_sem, d0, d1, d2, d3]; rfl) rfl ?_
    refine ⟨?_, ?_⟩
    · unfold FindPost
      rw [List.find?_eq_none.2 (by
        intro f hf
        obtain ⟨v, hv, rfl⟩ := List.mem_map.1 hf
        simpa using hno v hv)]
    · have h1 : Below w.heap.size w w1 := (below_fr HS.out).trans (HB1.out.mono HS.out.size)
      exact (((h1.setCell (p := ⟨w.heap.size + 1, 0, none⟩) (Nat.le_succ _) _).setCell (p := ⟨w.heap.size + 1, 1, none⟩) (Nat.le_succ _) _).setCell (p := ⟨w.heap.size + 1, 2, none⟩) (Nat.le_succ _) _).setCell (p := ⟨w.heap.size + 1, 3, none⟩) (Nat.le_succ _) _
end Go.Proofs.YtlgonkopojancaaDoor
