/- The walk of the reference's Bytes. -/
import Derived.Test.YtghahbododnafaaBytes
namespace Go.Proofs.Ytghahbododnafaa
open Go.RowKit
open Bt

theorem own_cells {w : World} {base n : Nat} {e : TypeId} {v : Value} {xs : List Value} (h : w.ownsRow base e 1 v n xs) (hn : 0 < n) : ∃ b c, v = .slice (some ⟨b, 0, none⟩) n c ∧ ∀ j u, xs[j]? = some u → w.cell? ⟨b, j, none⟩ = some u := by
  rcases h.2 with ⟨rfl, rfl⟩ | ⟨g, cap, cur, rfl, _⟩
  · omega
  · refine ⟨g, cap, rfl, fun j u hj => ?_⟩
    have := h.cells (g := g) (by simp [Value.ownBlock]) j u hj
    rw [← this]
    congr 1
    unfold Addr.add
    split <;> simp_all

theorem octs_take_false (L : List Bool) (k n : Nat) (hk : k < L.length) (hb : L[k] = false) : octs (L.take (k + 1)) n = octs (L.take k) n := by
  unfold octs
  refine List.map_congr_left fun j _ => ?_
  rw [List.take_succ_eq_append_getElem hk, hb, byteAt_snoc]
  simp

theorem octs_take_true (L : List Bool) (k n : Nat) (hk : k < L.length) (hb : L[k] = true) : octs (L.take (k + 1)) n = (octs (L.take k) n).set (k / 8) ((byteAt (L.take k) (k / 8) : Int) + 2 ^ (k % 8)) := by
  refine List.ext_getElem? fun j => ?_
  have hl : (L.take k).length = k := by rw [List.length_take]; omega
  by_cases hj : j < n
  · rw [octs_get _ _ _ hj, List.take_succ_eq_append_getElem hk, hb, byteAt_snoc, hl, List.getElem?_set]
    by_cases e : k / 8 = j
    · subst e
      rw [if_pos rfl, if_pos rfl, if_pos (by rw [length_octs]; exact hj)]
      simp
    · rw [if_neg e, if_neg e, octs_get _ _ _ hj]; simp
  · rw [List.getElem?_eq_none (by rw [length_octs]; omega), List.getElem?_eq_none (by rw [List.length_set, length_octs]; omega)]

theorem byte_room (L : List Bool) (k : Nat) (hk : k < L.length) : byteAt (L.take k) (k / 8) + 2 ^ (k % 8) < 256 := by
  have h := byteAt_lt (L.take k ++ [true]) (k / 8)
  rw [byteAt_snoc, show (L.take k).length = k from by rw [List.length_take]; omega] at h
  simpa using h

theorem room_mod {a k : Nat} (h : a + 2 ^ k < 256) : ((a : Int) + 2 ^ k) % 256 = (a : Int) + 2 ^ k := by
  have e : ((2 : Int) ^ k) = ((2 ^ k : Nat) : Int) := by simp
  rw [e]
  clear e
  generalize 2 ^ k = m at *
  omega

set_option maxHeartbeats 1000000 in
theorem rbytes_any (g : Nat) (v : Value) (L : List Bool) (p : Int) (w : World) (hw : IsB w g v L p) (hL : L.length ≤ 1000000) :
    Calls Try.prog 14 #[.pointer (some ⟨g, 0, none⟩)] w fun e w' => ∃ v', e = .returned v' ∧ w'.ownsRow 0 5 1 v' ((L.length + 7) / 8) ((pad L).map (Value.int .u8)) ∧ Same w w' ∧ Fresh w v' := by
  have c0 : w.cell? ⟨g, 0, none⟩ = some v := by rw [blk_cell hw.blk]; rfl
  have hlt := blk_lt hw.blk
  obtain ⟨A, c, rfl⟩ := own_shape hw.own
  have HW := Lib.hid hw; clear hw
  obtain ⟨i0, hi, hz0, hz1, hz2⟩ := info_parts info5
  go_enter Try.func14, Try.ntmps14
  go_wp2_with (at_make; refine wpList_make_full _ rfl (.tmp 11) (.tmp 11) 25 rfl 0 5 i0 (.int .u8 0) 1 Try.underlying25 hi hz0 hz1 .i64 .i64 _ _ ((L.length + 7) / 8) rfl rfl (by omega) (by omega) (by rw [hz2]; omega) (by unfold maxLen; omega) (Nat.zero_le _) ?_; intro w1 hown hgrow; have HO := Lib.hid hown; clear hown; have HG := Lib.hid (Fr.of_grown hgrow); clear hgrow)
  have d0 : w1.cell? ⟨g, 0, none⟩ = some (.slice A L.length c) := HG.out.cell c0 (by simp)
  go_loopw [4] (fun i wr => ∃ (k : Nat), k ≤ L.length ∧ i = .int .i64 k ∧ wr.ownsRow 0 5 1 (.slice (some ⟨w.heap.size, 0, none⟩) ((L.length + 7) / 8) ((L.length + 7) / 8)) ((L.length + 7) / 8) ((octs (L.take k) ((L.length + 7) / 8)).map (Value.int .u8)) ∧ Same w wr) (fun i _ => L.length - (intOf i).toNat)
  case atStart =>
    refine ⟨0, Nat.zero_le _, rfl, ?_, HG.out.mono (fun _ _ h => by simp at h)⟩
    have := HO.out
    have e : (madeCells (Value.int .u8 0).cells ((L.length + 7) / 8 * 1)).toList = (octs (L.take 0) ((L.length + 7) / 8)).map (Value.int .u8) := by
      rw [Nat.mul_one]
      show (madeCells #[Value.int .u8 0] _).toList = _
      rw [toList_madeCells_one]
      refine List.ext_getElem? fun j => ?_
      by_cases hj : j < (L.length + 7) / 8
      · simp [octs, hj, byteAt, val]
      · simp [octs, hj]
    rw [e] at this
    exact this
  case round =>
    obtain ⟨k, hk, rfl, hown, hS⟩ := hrel
    have e0 : wr.cell? ⟨g, 0, none⟩ = some (.slice A L.length c) := hS.cell c0 (fun h => h)
    by_cases hkl : k < L.length
    · obtain ⟨b, c', he, hcells⟩ := own_cells (hS.own HW.out.own (fun _ _ h => h)) (by omega)
      injection he with he1 he2 he3
      subst he1; subst he3
      have ck : wr.cell? ⟨b, k, none⟩ = some (.bool L[k]) := hcells k _ (by simp [hkl])
      clear hcells
      cases hb : L[k] with
      | false =>
        rw [hb] at ck
        have HE := Lib.hid (octs_take_false L k ((L.length + 7) / 8) hkl hb)
        clear hb
        have HO := Lib.hid hown; clear hown
        go_wp2
        go_roundw
        case rel => exact ⟨k + 1, by omega, by go_num, by rw [HE.out]; exact HO.out, hS⟩
        case measure => simp [intOf]; omega
      | true =>
        rw [hb] at ck
        have HE := Lib.hid (octs_take_true L k ((L.length + 7) / 8) hkl hb)
        have hroom := byte_room L k hkl
        clear hb
        have co : wr.cell? ⟨w.heap.size, k / 8, none⟩ = some (.int .u8 (byteAt (L.take k) (k / 8) : Int)) := by
          rw [hown.cellAt (k / 8) (by omega)]
          rw [List.getElem?_map, octs_get _ _ _ (by omega)]; rfl
        have fo : wr.frozen? ⟨w.heap.size, k / 8, none⟩ = false := hown.frozenAt _
        have hst := hown.stored (k / 8) (.int .u8 ((byteAt (L.take k) (k / 8) : Int) + 2 ^ (k % 8)))
        have HST := Lib.hid hst; clear hst
        have HO := Lib.hid hown; clear hown
        go_wp2
        go_roundw
        case rel =>
          refine ⟨k + 1, by omega, by go_num, ?_, hS.setCell _ _ (fun h => by simp at h)⟩
          rw [HE.out, room_mod hroom, List.map_set]
          exact HST.out.1
        case measure => simp [intOf]; omega
    · obtain rfl : k = L.length := by omega
      rw [List.take_length] at hown
      have HO := Lib.hid hown; clear hown
      go_wp2
      go_ret
      exact ⟨_, rfl, HO.out, hS, fun j hj => by simp [Value.ownBlock] at hj; omega⟩
end Go.Proofs.Ytghahbododnafaa
