/- The walk of IsSortedFunc. -/
import Derived.Test.YtlgonkopojancaaDoorFxNumS
namespace Go.Proofs.YtlgonkopojancaaDoor
open Go.RowKit

theorem dec2_any (u v : FV) (w : World) : Calls Tryd.prog 49 #[u.val, v.val] w fun e w' => e = .returned (.int .i64 (cmpI u.f.name v.f.name)) ∧ Below w.heap.size w w' := by
  obtain ⟨⟨un, um, ut, ub⟩, uA, ua, uc⟩ := u
  obtain ⟨⟨vn, vm, vt, vb⟩, vA, va, vc⟩ := v
  unfold FV.val fval
  dsimp only
  have HS : Hid (Below w.heap.size w ((w.alloc (.cells #[.string un, .int .u32 um, .int .i64 ut, .slice uA ua uc] 33)).alloc (.cells #[.string vn, .int .u32 vm, .int .i64 vt, .slice vA va vc] 33))) := below_fr (((Fr.refl _ w).alloc _).alloc _)
  go_enter Tryd.func49, Tryd.ntmps49
  go_wp2_with (go_at_call 36; refine (cmp_any un vn _).mono ?_; rintro e w1 ⟨rfl, rfl⟩)
  go_ret
  exact ⟨rfl, HS.out⟩
/-- each name is not below the one before it -/
def adjB (fs : List Fi) : Bool := (List.range (fs.length - 1)).all fun j => !lessB (fs.getD (j + 1) default).name (fs.getD j default).name
theorem cmp_neg {x y : ByteArray} (h : lessB x y = true) : cmpI x y = -1 := by unfold cmpI; rw [h]; rfl
theorem cmp_pos {x y : ByteArray} (h : lessB x y = false) : 0 ≤ cmpI x y := by
  unfold cmpI
  rw [h]
  simp only [Bool.false_eq_true, if_false]
  split <;> decide
theorem adj_false {fs : List Fi} {j : Nat} (hj : j + 1 < fs.length) (h : lessB (fs.getD (j + 1) default).name (fs.getD j default).name = true) : adjB fs = false := by
  unfold adjB
  rw [List.all_eq_false]
  exact ⟨j, List.mem_range.2 (by omega), by rw [h]; decide⟩
theorem adj_true {fs : List Fi} (h : ∀ j, j + 1 < fs.length → lessB (fs.getD (j + 1) default).name (fs.getD j default).name = false) : adjB fs = true := by
  unfold adjB
  rw [List.all_eq_true]
  intro j hj
  rw [h j (by have := List.mem_range.1 hj; omega)]
  rfl

set_option maxRecDepth 20000 in
set_option maxHeartbeats 4000000 in
theorem sorted_any (fs : List Fi) (A : Option Addr) (n c : Nat) (w : World) (hf : FRd w A n fs) :
    Calls Tryd.prog 48 #[.slice A n c, .func (.func 49) #[] #[]] w fun e w' => e = .returned (.bool (adjB fs)) ∧ Below w.heap.size w w' := by
  have lf : fs.length = n := hf.1
  have n63 := hf.2.1
  have e49 : ∀ args w, (callFunc 49 args).run Tryd.prog w = .ok (.enter 49 args) w := enters_of Tryd.func49 (by kernel_rfl) rfl
  have HF := Lib.hid hf; have LF := Lib.hid lf
  clear hf lf
  rcases Nat.eq_zero_or_pos n with h0 | h0
  · subst h0
    have hr : adjB fs = true := adj_true (fun j hj => by have := LF.out; omega)
    have HR := Lib.hid hr; clear hr
    go_enter Tryd.func48, Tryd.ntmps48
    go_wp2
    refine wp_loop_rounds 1 ?_
    rw [rounds_succ]
    go_wp2
    go_ret
    exact ⟨ret_bool HR.out.symm, Below.refl _ _⟩
  · have h1z : (1 : Int) ≤ n := by omega
    have HP := Lib.hid h0; clear h0
    go_enter Tryd.func48, Tryd.ntmps48
    go_wp2
    go_loopw [5] (fun v5 wr => ∃ k : Nat, v5 = .int .i64 k ∧ Hid (k < n) ∧ Hid (Below w.heap.size w wr) ∧ Hid (∀ j, k ≤ j → j + 1 < n → lessB (fs.getD (j + 1) default).name (fs.getD j default).name = false)) (fun v5 _ => (intOf v5).toNat)
    case atStart => exact ⟨n - 1, by have := HP.out; go_num, by have := HP.out; (show n - 1 < n); omega, Below.refl _ _, fun j h1 h2 => by omega⟩
    case round =>
      obtain ⟨k, rfl, HK, HB, HE⟩ := hrel
      by_cases hk : (0 : Int) < (k : Int)
      · obtain ⟨p, rfl⟩ : ∃ p, k = p + 1 := ⟨k - 1, by omega⟩
        obtain ⟨b, o, A1, n1, c1, rfl, hr1, hc1⟩ := (HF.out.same HB.out).load (j := p + 1) HK.out
        obtain ⟨b2, o2, A2, n2, c2, e, hr2, hc2⟩ := (HF.out.same HB.out).load (j := p) (by have := HK.out; omega)
        injection e with e
        injection e with e1 e2
        subst e1; subst e2
        obtain ⟨f, hfe⟩ : ∃ f, fs.getD (p + 1) default = f := ⟨_, rfl⟩
        obtain ⟨g, hge⟩ : ∃ g, fs.getD p default = g := ⟨_, rfl⟩
        rw [hfe] at hc1
        rw [hge] at hc2
        have HFE := Lib.hid hfe; have HGE := Lib.hid hge
        have hkeep : ∀ w', Below wr.heap.size wr w' → (w'.cell? ⟨b, o + (p + 1) * 4, none⟩ = some (.string f.name) ∧ w'.cell? ⟨b, o + (p + 1) * 4 + 1, none⟩ = some (.int .u32 f.mode) ∧ w'.cell? ⟨b, o + (p + 1) * 4 + 2, none⟩ = some (.int .i64 f.time) ∧ w'.cell? ⟨b, o + (p + 1) * 4 + 3, none⟩ = some (.slice A1 n1 c1)) ∧ (w'.cell? ⟨b, o + p * 4, none⟩ = some (.string g.name) ∧ w'.cell? ⟨b, o + p * 4 + 1, none⟩ = some (.int .u32 g.mode) ∧ w'.cell? ⟨b, o + p * 4 + 2, none⟩ = some (.int .i64 g.time) ∧ w'.cell? ⟨b, o + p * 4 + 3, none⟩ = some (.slice A2 n2 c2)) := fun w' h => ⟨hc1 w' h, hc2 w' h⟩
        have HKP := Lib.hid hkeep
        have hs := hkeep wr (Below.refl _ _)
        have hwp : IntKind.i64.wrap (p : Int) = (p : Int) := by have := HK.out; rw [IntKind.wrap_i64]; omega
        have jz : (p : Int) + 1 < (n : Int) := by have := HK.out; omega
        have jz1 : (p : Int) < (n : Int) := by omega
        have p0 : (0 : Int) ≤ (p : Int) + 1 := by omega
        have e0 : ((p : Int) + 1).toNat = p + 1 := by omega
        have hone := dec2_any ⟨f, A1, n1, c1⟩ ⟨g, A2, n2, c2⟩
        have HONE := Lib.hid hone
        clear hc1 hc2 hr1 hr2 hkeep hfe hge hone
        by_cases hl : lessB f.name g.name = true
        · have HR : Hid (adjB fs = false) := adj_false (j := p) (by have := HK.out; have := LF.out; omega) (by rw [HFE.out, HGE.out]; exact hl)
          have HC := Lib.hid (cmp_neg hl)
          clear hl
          go_wp2_with fail
          go_region_held3 (fun w' => (w'.cell? ⟨b, o + (p + 1) * 4, none⟩ = some (.string f.name) ∧ w'.cell? ⟨b, o + (p + 1) * 4 + 1, none⟩ = some (.int .u32 f.mode) ∧ w'.cell? ⟨b, o + (p + 1) * 4 + 2, none⟩ = some (.int .i64 f.time) ∧ w'.cell? ⟨b, o + (p + 1) * 4 + 3, none⟩ = some (.slice A1 n1 c1)) ∧ (w'.cell? ⟨b, o + p * 4, none⟩ = some (.string g.name) ∧ w'.cell? ⟨b, o + p * 4 + 1, none⟩ = some (.int .u32 g.mode) ∧ w'.cell? ⟨b, o + p * 4 + 2, none⟩ = some (.int .i64 g.time) ∧ w'.cell? ⟨b, o + p * 4 + 3, none⟩ = some (.slice A2 n2 c2)))
            (first | go_keep | exact HKP.out _ (by assumption))
            ((go_at_call 49; refine (HONE.out _).mono ?_; rintro e w' ⟨rfl, hb⟩; have hb2 : Below wr.heap.size wr w' := (Below.refl _ wr).drew.trans hb; rw [HC.out]))
          rename_i hHeld; clear hHeld
          go_wp2
          go_ret
          exact ⟨ret_bool HR.out.symm, HB.out.trans (hb2.mono HB.out.size)⟩
        · have hl2 : lessB f.name g.name = false := by simpa using hl
          obtain ⟨q, hq⟩ : ∃ q, cmpI f.name g.name = q := ⟨_, rfl⟩
          have hq0 : 0 ≤ q := by rw [← hq]; exact cmp_pos hl2
          have HC := Lib.hid (And.intro hq hl2)
          have hq1 : ¬ q < 0 := by omega
          clear hl hl2 hq hq0
          go_wp2_with fail
          go_region_held3 (fun w' => (w'.cell? ⟨b, o + (p + 1) * 4, none⟩ = some (.string f.name) ∧ w'.cell? ⟨b, o + (p + 1) * 4 + 1, none⟩ = some (.int .u32 f.mode) ∧ w'.cell? ⟨b, o + (p + 1) * 4 + 2, none⟩ = some (.int .i64 f.time) ∧ w'.cell? ⟨b, o + (p + 1) * 4 + 3, none⟩ = some (.slice A1 n1 c1)) ∧ (w'.cell? ⟨b, o + p * 4, none⟩ = some (.string g.name) ∧ w'.cell? ⟨b, o + p * 4 + 1, none⟩ = some (.int .u32 g.mode) ∧ w'.cell? ⟨b, o + p * 4 + 2, none⟩ = some (.int .i64 g.time) ∧ w'.cell? ⟨b, o + p * 4 + 3, none⟩ = some (.slice A2 n2 c2)))
            (first | go_keep | exact HKP.out _ (by assumption))
            ((go_at_call 49; refine (HONE.out _).mono ?_; rintro e w' ⟨rfl, hb⟩; have hb2 : Below wr.heap.size wr w' := (Below.refl _ wr).drew.trans hb; rw [HC.out.1]))
          rename_i hHeld; clear hHeld
          go_wp2
          go_roundw
          case rel =>
            refine ⟨p, by go_num, (by omega : p < n), HB.out.trans (hb2.mono HB.out.size), ?_⟩
            show ∀ j, p ≤ j → j + 1 < n → lessB (fs.getD (j + 1) default).name (fs.getD j default).name = false
            intro j h1 h2
            by_cases e : j = p
            · subst e; rw [HFE.out, HGE.out]; exact HC.out.2
            · exact HE.out j (by omega) h2
          case measure => simp [intOf]
      · have hk0 : k = 0 := by omega
        have hr : adjB fs = true := adj_true (fun j hj => HE.out j (by omega) (by have := LF.out; omega))
        have HR := Lib.hid hr
        clear hr hk0
        go_wp2
        go_ret
        exact ⟨ret_bool HR.out.symm, HB.out⟩
end Go.Proofs.YtlgonkopojancaaDoor
