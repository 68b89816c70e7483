/- The walk of Name. -/
import Derived.Test.YtlgonkopojancaaDoorFxLib
import Derived.Test.YtlgonkopojancaaDoorFxShelf
import Derived.Test.YtlgonkopojancaaDoorProg
namespace Go.Proofs.YtlgonkopojancaaDoor
open Go.RowKit

/-- may a byte be in a name? -/
def okB (x : UInt8) : Bool := decide (33 ≤ x.toNat) && (decide (x.toNat ≤ 126) && !(x.toNat == 92))
/-- a part that may not be -/
def badP (p : ByteArray) : Bool := p.toList.isEmpty || p.toList == [46] || p.toList == [46, 46]
def bar : ByteArray := ⟨#[47]⟩
def nameB (s : ByteArray) : Bool := s.data.toList.all okB && (decide (s.size ≤ 100) && !((Lib.splitB bar 0 (Lib.countB s bar) s).any badP))
theorem ret_bool {a b : Bool} (h : a = b) : Ending.returned (.bool a) = .returned (.bool b) := by rw [h]

theorem bad_any (p : ByteArray) (w : World) : Calls Tryd.prog 39 #[.string p] w fun e w' => e = .returned (.bool (badP p)) ∧ w' = w := by
  go_enter Tryd.func39, Tryd.ntmps39
  go_wp2
  all_goals
    go_ret
    refine ⟨ret_bool ?_, rfl⟩
    unfold badP
    first
      | rfl
      | (rename_i h2; rw [h2]; rfl)

/-- a string's bytes as numbers -/
def nums (s : ByteArray) : List Int := s.data.toList.map (fun b => (b.toNat : Int))
theorem length_nums (s : ByteArray) : (nums s).length = s.size := by unfold nums; rw [List.length_map]; rfl
theorem conv_new (s : ByteArray) (w : World) (hs : s.size ≤ 9223372036854775807) : ∃ c W1, (convert 9 25 (.string s)).run Tryd.prog w = .ok (.slice (some ⟨w.heap.size, 0, none⟩) s.size c) W1 ∧ Reads W1 .u8 (some ⟨w.heap.size, 0, none⟩) s.size (nums s) ∧ Same w W1 := by
  refine ⟨_, _, run_bytes_of_string w 9 25 5 s Tryd.underlying9 Tryd.underlying25 Tryd.underlying5, ⟨length_nums s, hs, fun _ => ⟨w.heap.size, 0, rfl, fun j hj => ?_⟩⟩, (Fr.refl _ w).drew.alloc _⟩
  rw [Nat.zero_add]
  have hb : (w.drew.alloc (.cells (bytesRow s (grownCap w s.size 0 5)) 5 ((bytesRow s (grownCap w s.size 0 5)).size, (bytesRow s (grownCap w s.size 0 5)).size + 1))).heap[w.heap.size]? = some _ := blk_new w.drew _
  rw [cell_of_row _ _ _ _ _ _ hb, bytesRow_at s _ j hj]
  unfold nums
  rw [List.getD_eq_getElem?_getD, List.getElem?_map]
  have : s.data.toList[j]? = some s.data[j] := by simp
  rw [this]; rfl

theorem pred_bad (w : World) : PredAt Tryd.prog 39 #[] Value.string badP w := fun W x _ => (bad_any x W).mono fun _ _ ⟨h1, h2⟩ => ⟨h1, 0, h2⟩
theorem okB_of {x : UInt8} (h1 : ¬ (x.toNat : Int) < 33) (h2 : ¬ (126 : Int) < (x.toNat : Int)) (h3 : ((x.toNat : Int) == 92) = false) : okB x = true := by
  rw [beq_eq_false_iff_ne] at h3
  unfold okB
  simp
  omega
theorem okB_no {x : UInt8} (h : (x.toNat : Int) < 33 ∨ (126 : Int) < (x.toNat : Int) ∨ (x.toNat : Int) = 92) : okB x = false := by
  unfold okB
  simp
  omega
set_option maxRecDepth 20000 in
set_option maxHeartbeats 2000000 in
theorem name_any (s : ByteArray) (m : Int) (w : World) (hm : w.cell? ⟨0, 0, none⟩ = some (.int .i64 m)) (hs : s.size ≤ 9223372036854775807) :
    Calls Tryd.prog 25 #[.string s] w fun e w' => e = .returned (.bool (nameB s)) ∧ Below w.heap.size w w' := by
  obtain ⟨c, W1, hcv, hr, hS⟩ := conv_new s w hs
  have HR := Lib.hid hr; have HS := Lib.hid hS; have HM := Lib.hid hm
  clear hr hS hm
  have eg : ∀ args w, (callFunc 39 args).run Tryd.prog w = .ok (.enter 39 args) w := enters_of Tryd.func39 (by kernel_rfl) rfl
  go_enter Tryd.func25, Tryd.ntmps25
  go_wp2
  go_loop [4, 9] (fun _ v9 => ∃ k : Nat, v9 = .int .i64 k ∧ Hid (k ≤ s.size) ∧ Hid (∀ j, (h : j < s.data.toList.length) → j < k → okB (s.data.toList[j]) = true)) (fun _ v9 => s.size - (intOf v9).toNat)
  case atStart => exact ⟨0, rfl, Nat.zero_le _, fun j _ h => absurd h (by omega)⟩
  case round =>
    obtain ⟨k, rfl, HK, HP⟩ := hrel
    by_cases hk : (k : Int) < s.size
    · obtain ⟨b, o, e, hc⟩ := HR.out.2.2 (by omega)
      injection e with e
      injection e with e1 e2
      subst e1; subst e2
      have ck := hc k (by omega)
      have hkl : k < s.data.toList.length := by have : s.data.toList.length = s.size := rfl; omega
      have hx : (nums s).getD k 0 = (s.data.toList[k].toNat : Int) := by
        unfold nums
        rw [List.getD_eq_getElem?_getD, List.getElem?_map, List.getElem?_eq_getElem hkl]; rfl
      rw [hx, Nat.zero_add] at ck
      obtain ⟨x, hxx⟩ : ∃ x, s.data.toList[k] = x := ⟨_, rfl⟩
      rw [hxx] at ck
      have HXX := Lib.hid hxx
      clear hc hx hxx
      by_cases h1 : (x.toNat : Int) < 33 ∨ (126 : Int) < (x.toNat : Int) ∨ (x.toNat : Int) = 92
      · have HNB : Hid (nameB s = false) := (by
          unfold nameB
          have : s.data.toList.all okB = false := by
            rw [List.all_eq_false]
            exact ⟨x, HXX.out ▸ List.getElem_mem hkl, by rw [okB_no h1]; decide⟩
          rw [this]; rfl : nameB s = false)
        rcases h1 with h1 | h1 | h1
        · go_wp2
          go_ret
          exact ⟨ret_bool HNB.out.symm, below_fr HS.out⟩
        · have h0 : ¬ (x.toNat : Int) < 33 := by omega
          go_wp2
          go_ret
          exact ⟨ret_bool HNB.out.symm, below_fr HS.out⟩
        · have h0 : ¬ (x.toNat : Int) < 33 := by omega
          have h2 : ¬ (126 : Int) < (x.toNat : Int) := by omega
          have h3 : ((x.toNat : Int) == 92) = true := by rw [h1]; rfl
          clear h1
          go_wp2
          go_ret
          exact ⟨ret_bool HNB.out.symm, below_fr HS.out⟩
      · have h0 : ¬ (x.toNat : Int) < 33 := by omega
        have h2 : ¬ (126 : Int) < (x.toNat : Int) := by omega
        have h3 : ((x.toNat : Int) == 92) = false := by rw [beq_eq_false_iff_ne]; omega
        have HOK := Lib.hid (okB_of h0 h2 h3)
        clear h1
        go_wp2
        go_round
        case rel =>
          refine ⟨k + 1, by go_num, (by omega : k + 1 ≤ s.size), ?_⟩
          show ∀ j, (h : j < s.data.toList.length) → j < k + 1 → okB (s.data.toList[j]) = true
          intro j hj hjk
          by_cases e : j = k
          · subst e; rw [HXX.out]; exact HOK.out
          · exact HP.out j hj (by omega)
        case measure => simp [intOf]; omega
    · have hall : s.data.toList.all okB = true := by
        rw [List.all_eq_true]
        intro x hx
        obtain ⟨j, hj, rfl⟩ := List.getElem_of_mem hx
        exact HP.out j hj (by have : s.data.toList.length = s.size := rfl; omega)
      have HALL := Lib.hid hall
      clear hall
      by_cases h100 : (s.size : Int) ≤ 100
      · go_wp2_with fail
        have HM1 := Lib.hid (HS.out.cell HM.out (fun e => e))
        refine (Tryd.strings_Split s bar m W1 (by omega) HM1.out (by decide)).mono ?_
        rintro e w' ⟨rfl, rfl⟩
        obtain ⟨W2, hW2⟩ : ∃ W2, W1.alloc (.cells ((Lib.splitB bar 0 (Lib.countB s bar) s).map Value.string).toArray 9) = W2 := ⟨_, rfl⟩
        have HS2 := Lib.hid (HS.out.alloc (.cells ((Lib.splitB bar 0 (Lib.countB s bar) s).map Value.string).toArray 9))
        have HB := Lib.hid (blk_new W1 (.cells ((Lib.splitB bar 0 (Lib.countB s bar) s).map Value.string).toArray 9))
        rw [hW2] at HS2 HB
        rw [hW2]
        clear hW2
        have hlen : (Lib.splitB bar 0 (Lib.countB s bar) s).length = Lib.countB s bar + 1 := Lib.splitB_all bar (by decide) 0 _ s rfl
        have hcb : Lib.countB s bar ≤ s.size := Lib.countB_le bar (by decide) s.size s (Nat.le_refl _)
        go_wp2_with fail
        refine (AnyE.slices_ContainsFunc Tryd.lcf Value.string badP 39 #[] eg W1.heap.size 0 (Lib.countB s bar + 1) (Lib.countB s bar + 1) (Lib.splitB bar 0 (Lib.countB s bar) s) W2 (pred_bad W2) (by omega) (by omega) ?_).mono ?_
        · intro j hj
          rw [Nat.zero_add, blk_cell HB.out]
          simp [hj]
        rintro e w' ⟨rfl, q, rfl⟩
        have h1 : (Lib.splitB bar 0 (Lib.countB s bar) s).take (Lib.countB s bar + 1) = Lib.splitB bar 0 (Lib.countB s bar) s := List.take_of_length_le (by omega)
        rw [h1]
        obtain ⟨B, hB⟩ : ∃ B, (Lib.splitB bar 0 (Lib.countB s bar) s).any badP = B := ⟨_, rfl⟩
        have HNB : Hid (nameB s = !B) := (by
          unfold nameB
          rw [HALL.out, hB, decide_eq_true (by omega : s.size ≤ 100)]; rfl : nameB s = !B)
        rw [hB]
        go_wp2_with fail
        go_ret
        exact ⟨ret_bool HNB.out.symm, below_fr (HS2.out.drewN q)⟩
      · have HNB : Hid (nameB s = false) := (by
          unfold nameB
          rw [decide_eq_false (by omega : ¬ s.size ≤ 100), Bool.false_and, Bool.and_false] : nameB s = false)
        go_wp2_with fail
        go_ret
        exact ⟨ret_bool HNB.out.symm, below_fr HS.out⟩
end Go.Proofs.YtlgonkopojancaaDoor
