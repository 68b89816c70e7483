/- The walks of One and Same. -/
import Derived.Test.YtlgonkopojancaaDoorFxMem
import Derived.Test.YtlgonkopojancaaDoorFxName
import Derived.Deep.RegionHeld3
namespace Go.Proofs.YtlgonkopojancaaDoor
open Go.RowKit

set_option maxHeartbeats 1000000 in
theorem one_any (f g : Fi) (A : Option Addr) (n c : Nat) (B : Option Addr) (m d : Nat) (w : World) (hf : Reads w .u8 A n f.body) (hg : Reads w .u8 B m g.body) (bf : Bts f.body) (bg : Bts g.body) :
    Calls Tryd.prog 22 #[fval f A n c, fval g B m d] w fun e w' => e = .returned (.bool (decide (f = g))) ∧ Below w.heap.size w w' := by
  obtain ⟨W, hW⟩ : ∃ W, (w.alloc (.cells #[.string f.name, .int .u32 f.mode, .int .i64 f.time, .slice A n c] 33)).alloc (.cells #[.string g.name, .int .u32 g.mode, .int .i64 g.time, .slice B m d] 33) = W := ⟨_, rfl⟩
  have hS : Same w W := by rw [← hW]; exact ((Fr.refl _ w).alloc _).alloc _
  have c1 := conv_reads (c := c) (hf.all hS (fun _ h => h))
  have c2 := conv_reads (c := d) (hg.all hS (fun _ h => h))
  have HS := Lib.hid (below_fr hS)
  rw [← hW] at c1 c2 HS
  have HB := Lib.hid (str_beq bf bg)
  clear hf hg bf bg hS hW W
  obtain ⟨fn, fm, ft, fb⟩ := f
  obtain ⟨gn, gm, gt, gb⟩ := g
  unfold fval
  dsimp only at *
  have tl : ∀ {x y : ByteArray}, ¬ x = y → ¬ x.toList = y.toList := fun {x y} h e => h (bytes_ext _ _ (by rw [← ByteArray.toList_eq, ← ByteArray.toList_eq, e]))
  by_cases h1 : fn = gn
  · subst h1
    by_cases h2 : fm = gm
    · subst h2
      by_cases h3 : ft = gt
      · subst h3
        by_cases h4 : fb = gb
        · subst h4
          clear tl HB
          go_enter Tryd.func22, Tryd.ntmps22
          go_wp2
          go_ret
          exact ⟨ret_bool (by simp), HS.out⟩
        · have h5 : ¬ (strOf fb).toList = (strOf gb).toList := by
            have := HB.out
            rw [decide_eq_false h4, beq_eq_false_iff_ne] at this
            exact this
          clear tl h4
          go_enter Tryd.func22, Tryd.ntmps22
          go_wp2
          go_ret
          exact ⟨ret_bool (HB.out.trans (by simp)), HS.out⟩
      · clear tl HB c1 c2
        go_enter Tryd.func22, Tryd.ntmps22
        go_wp2
        go_ret
        exact ⟨ret_bool (by simp [h3]), HS.out⟩
    · clear tl HB c1 c2
      go_enter Tryd.func22, Tryd.ntmps22
      go_wp2
      go_ret
      exact ⟨ret_bool (by simp [h2]), HS.out⟩
  · have h5 := tl h1
    have HD : Hid (¬ fn = gn) := h1
    clear tl HB c1 c2 h1
    go_enter Tryd.func22, Tryd.ntmps22
    go_wp2
    go_ret
    exact ⟨ret_bool (decide_eq_false fun e => HD (by injection e)).symm, HS.out⟩

theorem FRd.load {w : World} {A : Option Addr} {n : Nat} {fs : List Fi} (h : FRd w A n fs) {j : Nat} (hj : j < n) : ∃ b o A' n' c', A = some ⟨b, o, none⟩ ∧ Reads w .u8 A' n' (fs.getD j default).body ∧ ∀ w', Below w.heap.size w w' →
    w'.cell? ⟨b, o + j * 4, none⟩ = some (.string (fs.getD j default).name) ∧ w'.cell? ⟨b, o + j * 4 + 1, none⟩ = some (.int .u32 (fs.getD j default).mode) ∧ w'.cell? ⟨b, o + j * 4 + 2, none⟩ = some (.int .i64 (fs.getD j default).time) ∧ w'.cell? ⟨b, o + j * 4 + 3, none⟩ = some (.slice A' n' c') := by
  obtain ⟨b, o, e, A', n', c', h0, h1, h2, h3, h4⟩ := h.at hj
  have hb := World.block_lt_of_cell? w _ h0
  exact ⟨b, o, A', n', c', e, h4, fun w' g => ⟨(g.cell (p := ⟨b, o + j * 4, none⟩) hb).trans h0, (g.cell (p := ⟨b, o + j * 4 + 1, none⟩) hb).trans h1, (g.cell (p := ⟨b, o + j * 4 + 2, none⟩) hb).trans h2, (g.cell (p := ⟨b, o + j * 4 + 3, none⟩) hb).trans h3⟩⟩

set_option maxRecDepth 20000 in
set_option maxHeartbeats 4000000 in
theorem same_any (fs gs : List Fi) (A : Option Addr) (n c : Nat) (B : Option Addr) (m d : Nat) (w : World) (hf : FRd w A n fs) (hg : FRd w B m gs) (bf : ∀ f ∈ fs, Bts f.body) (bg : ∀ f ∈ gs, Bts f.body) :
    Calls Tryd.prog 15 #[.slice A n c, .slice B m d] w fun e w' => e = .returned (.bool (decide (fs = gs))) ∧ Below w.heap.size w w' := by
  have lf : fs.length = n := hf.1
  have lg : gs.length = m := hg.1
  have n63 := hf.2.1
  have e22 : ∀ args w, (callFunc 22 args).run Tryd.prog w = .ok (.enter 22 args) w := enters_of Tryd.func22 (by kernel_rfl) rfl
  have HF := Lib.hid hf; have HG := Lib.hid hg; have BF := Lib.hid bf; have BG := Lib.hid bg
  have LF := Lib.hid lf; have LG := Lib.hid lg
  clear hf hg bf bg lf lg
  by_cases hnm : n = m
  · subst hnm
    go_enter Tryd.func15, Tryd.ntmps15
    go_wp2
    go_loopw [5, 6] (fun v5 _ wr => ∃ k : Nat, v5 = .int .i64 k ∧ Hid (k ≤ n) ∧ Hid (Below w.heap.size w wr) ∧ Hid (∀ j, j < k → fs.getD j default = gs.getD j default)) (fun v5 _ _ => n - (intOf v5).toNat)
    case atStart => exact ⟨0, rfl, Nat.zero_le _, Below.refl _ _, fun j h => absurd h (by omega)⟩
    case round =>
      obtain ⟨k, rfl, HK, HB, HE⟩ := hrel
      by_cases hk : (k : Int) < n
      · obtain ⟨b, o, A1, n1, c1, rfl, hr1, hc1⟩ := (HF.out.same HB.out).load (j := k) (by omega)
        obtain ⟨b2, o2, A2, n2, c2, rfl, hr2, hc2⟩ := (HG.out.same HB.out).load (j := k) (by omega)
        have h0k : (0 : Int) ≤ (k : Int) := by omega
        have hbf : Bts (fs.getD k default).body := BF.out _ (by rw [List.getD_eq_getElem?_getD, List.getElem?_eq_getElem (by have := LF.out; omega)]; exact List.getElem_mem _)
        have hbg : Bts (gs.getD k default).body := BG.out _ (by rw [List.getD_eq_getElem?_getD, List.getElem?_eq_getElem (by have := LG.out; omega)]; exact List.getElem_mem _)
        obtain ⟨f, hfe⟩ : ∃ f, fs.getD k default = f := ⟨_, rfl⟩
        obtain ⟨g, hge⟩ : ∃ g, gs.getD k default = g := ⟨_, rfl⟩
        rw [hfe] at hr1 hc1 hbf
        rw [hge] at hr2 hc2 hbg
        have HFE := Lib.hid hfe; have HGE := Lib.hid hge; have BF1 := Lib.hid hbf; have BG1 := Lib.hid hbg
        have hone := one_any f g A1 n1 c1 A2 n2 c2
        have hkeep : ∀ w', Below wr.heap.size wr w' → (w'.cell? ⟨b, o + k * 4, none⟩ = some (.string f.name) ∧ w'.cell? ⟨b, o + k * 4 + 1, none⟩ = some (.int .u32 f.mode) ∧ w'.cell? ⟨b, o + k * 4 + 2, none⟩ = some (.int .i64 f.time) ∧ w'.cell? ⟨b, o + k * 4 + 3, none⟩ = some (.slice A1 n1 c1)) ∧ (w'.cell? ⟨b2, o2 + k * 4, none⟩ = some (.string g.name) ∧ w'.cell? ⟨b2, o2 + k * 4 + 1, none⟩ = some (.int .u32 g.mode) ∧ w'.cell? ⟨b2, o2 + k * 4 + 2, none⟩ = some (.int .i64 g.time) ∧ w'.cell? ⟨b2, o2 + k * 4 + 3, none⟩ = some (.slice A2 n2 c2)) := fun w' g => ⟨hc1 w' g, hc2 w' g⟩
        have HKP := Lib.hid hkeep; have HONE := Lib.hid hone; have HR1 := Lib.hid hr1; have HR2 := Lib.hid hr2
        have hs := hkeep wr (Below.refl _ _)
        clear hc1 hc2 hr1 hr2 hkeep hone hfe hge hbf hbg
        go_wp2_with fail
        go_region_held3 (fun w' => (w'.cell? ⟨b, o + k * 4, none⟩ = some (.string f.name) ∧ w'.cell? ⟨b, o + k * 4 + 1, none⟩ = some (.int .u32 f.mode) ∧ w'.cell? ⟨b, o + k * 4 + 2, none⟩ = some (.int .i64 f.time) ∧ w'.cell? ⟨b, o + k * 4 + 3, none⟩ = some (.slice A1 n1 c1)) ∧ (w'.cell? ⟨b2, o2 + k * 4, none⟩ = some (.string g.name) ∧ w'.cell? ⟨b2, o2 + k * 4 + 1, none⟩ = some (.int .u32 g.mode) ∧ w'.cell? ⟨b2, o2 + k * 4 + 2, none⟩ = some (.int .i64 g.time) ∧ w'.cell? ⟨b2, o2 + k * 4 + 3, none⟩ = some (.slice A2 n2 c2)))
          (first | go_keep | exact HKP.out _ (by assumption))
          ((go_at_call 22; refine (HONE.out _ (HR1.out.same (Below.refl _ _).drew) (HR2.out.same (Below.refl _ _).drew) BF1.out BG1.out).mono ?_; rintro e w' ⟨rfl, hb⟩; have hb2 : Below wr.heap.size wr w' := (Below.refl _ wr).drew.trans hb))
        have HB2 := Lib.hid (show Below w.heap.size w w' from HB.out.trans (hb2.mono HB.out.size))
        clear hb hb2
        by_cases hq : f = g
        · rw [decide_eq_true hq]
          go_wp2
          go_roundw
          case rel =>
            refine ⟨k + 1, by go_num, (by omega : k + 1 ≤ n), HB2.out, ?_⟩
            show ∀ j, j < k + 1 → fs.getD j default = gs.getD j default
            intro j hj
            by_cases e : j = k
            · subst e; rw [HFE.out, HGE.out, hq]
            · exact HE.out j (by omega)
          case measure => simp [intOf]; omega
        · rw [decide_eq_false hq]
          have hne : decide (fs = gs) = false := decide_eq_false fun e => hq (by rw [← HFE.out, ← HGE.out, e])
          have HNE := Lib.hid hne
          clear hne
          go_wp2
          go_ret
          exact ⟨ret_bool HNE.out.symm, HB2.out⟩
      · have heq : decide (fs = gs) = true := decide_eq_true (List.ext_getElem (LF.out.trans LG.out.symm) fun j h1 h2 => by
          have := HE.out j (by have := LF.out; omega)
          rw [List.getD_eq_getElem?_getD, List.getD_eq_getElem?_getD, List.getElem?_eq_getElem h1, List.getElem?_eq_getElem h2] at this
          exact this)
        have HNE := Lib.hid heq
        clear heq
        go_wp2
        go_ret
        exact ⟨ret_bool HNE.out.symm, HB.out⟩
  · have hne : decide (fs = gs) = false := decide_eq_false fun e => hnm (by rw [← LF.out, ← LG.out, e])
    have hnI : ¬ (n : Int) = m := by omega
    have HNE := Lib.hid hne
    clear hne
    go_enter Tryd.func15, Tryd.ntmps15
    go_wp2
    go_ret
    exact ⟨ret_bool HNE.out.symm, Below.refl _ _⟩
end Go.Proofs.YtlgonkopojancaaDoor
