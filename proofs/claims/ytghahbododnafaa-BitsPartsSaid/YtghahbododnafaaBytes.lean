/- The walks of bytes.Clone, of both Bytes, and of the reference's New. -/
import Derived.Test.YtghahbododnafaaSmall
namespace Go.Proofs.Ytghahbododnafaa
open Go.RowKit
open Bt

theorem Reads.cells {w : World} {A : Option Addr} {n : Nat} {xs : List Int} (h : Reads w .u8 A n xs) {a : Addr} (hA : A = some a) (hn : 0 < n) : ∀ j u, (xs.map (Value.int .u8))[j]? = some u → w.cell? (a.add j) = some u := by
  intro j u hj
  obtain ⟨b, o, e, hc⟩ := h.2.2 hn
  have ea : a = ⟨b, o, none⟩ := by rw [hA] at e; injection e
  have hl : j < xs.length := by
    have := (List.getElem?_eq_some_iff.1 hj).1
    simpa using this
  have e2 : (xs.map (Value.int .u8))[j]? = some (.int .u8 (xs.getD j 0)) := by simp [List.getD, List.getElem?_eq_getElem hl]
  rw [e2] at hj
  have e1 : a.add j = ⟨b, o + j, none⟩ := by rw [ea]; unfold Addr.add; split <;> simp_all
  rw [e1, hc j (by have := h.1; omega)]
  exact hj

set_option maxHeartbeats 1000000 in
theorem clone_any (A : Option Addr) (c : Nat) (xs : List Int) (w : World) (hr : Reads w .u8 A xs.length xs) (hbig : xs.length ≤ 140737488355328) :
    Calls Try.prog 23 #[.slice A xs.length c] w fun e w' => ∃ v', e = .returned v' ∧ w'.ownsRow 0 5 1 v' xs.length (xs.map (Value.int .u8)) ∧ Same w w' ∧ Fresh w v' := by
  have q22 : ∀ (w : World) (a : Option Addr) (n c n' c' : Nat), (binOp .eql 25 (.slice a n c) (.slice none n' c')).run Try.prog w = .ok (.bool a.isNone) w := fun w a n c n' c' => Lib.run_eql_slice_nil w _ _ a n c n' c' Try.underlying25
  cases A with
  | none =>
    have h0 : xs.length = 0 := by
      rcases Nat.eq_zero_or_pos xs.length with h | h
      · exact h
      · obtain ⟨b, o, e, _⟩ := hr.2.2 h
        cases e
    have hx : xs = [] := List.eq_nil_of_length_eq_zero h0
    subst hx
    clear hr h0
    go_enter Try.func23, Try.ntmps23
    go_wp2
    go_ret
    exact ⟨_, rfl, World.ownsRow_nil _ _ _ _, Fr.refl _ _, fun j hj => by simp [Value.ownBlock] at hj⟩
  | some a =>
    obtain ⟨i0, hi, hz0, hz1, hz2⟩ := info_parts info5
    have HR := Lib.hid hr; clear hr
    go_enter Try.func23, Try.ntmps23
    go_wp2_with (at_builtin; refine wpList_append_own_at _ rfl _ _ 25 rfl 0 5 i0 (.int .u8 0) 1 1 Try.underlying25 hi hz0 hz1 hz2 rfl (by decide) _ _ _ rfl (World.ownsRow_made w #[] 0 (Nat.zero_le _) (Nat.zero_le _) rfl) a xs.length c (xs.map (Value.int .u8)) rfl ?qc1 ?qc2 ?qc3 ?qc4 ?qc5 ?qc6 ?_)
    case qc1 => simp
    case qc2 =>
      intro j u hj
      have hn : 0 < xs.length := by
        have := (List.getElem?_eq_some_iff.1 hj).1
        simp at this; omega
      have f : Same w (w.alloc (.cells #[] 5)) := (Fr.refl _ _).alloc _
      exact f.cell (HR.out.cells rfl hn j u hj) (fun h => h)
    case qc3 => intro u hu; obtain ⟨x, _, rfl⟩ := List.mem_map.1 hu; rfl
    case qc4 => unfold maxLen; omega
    case qc5 => omega
    case qc6 => simp
    intro v' w1 hown hgrow hnil hloc
    go_wp2
    go_ret
    refine ⟨v', rfl, by simpa using hown, ?_, ?_⟩
    · have f : Same w (w.alloc (.cells #[] 5)) := (Fr.refl _ _).alloc _
      exact f.trans (Fr.of_grown hgrow) (fun _ _ h => h) (fun k hk h => by simp [Value.ownBlock] at h; omega)
    · intro j hj
      rcases hloc with h | h
      · rw [h] at hj; simp [Value.ownBlock] at hj; omega
      · rw [h] at hj; simp at hj; omega

theorem pad_full (L : List Bool) (h : L.length % 8 = 0) : pad L = octs L (L.length / 8) ∧ (L.length + 7) / 8 = L.length / 8 := by
  have : (L.length + 7) / 8 = L.length / 8 := by omega
  exact ⟨by unfold pad; rw [this], this⟩
theorem pad_part (L : List Bool) (h : L.length % 8 ≠ 0) : pad L = octs L (L.length / 8) ++ [(byteAt L (L.length / 8) : Int)] ∧ (L.length + 7) / 8 = L.length / 8 + 1 := by
  have : (L.length + 7) / 8 = L.length / 8 + 1 := by omega
  exact ⟨by unfold pad; rw [this, octs_succ], this⟩

set_option maxHeartbeats 1000000 in
theorem wbytes_any (g : Nat) (v : Value) (L : List Bool) (w : World) (hw : IsW w g v L) (hL : L.length ≤ 1000000) :
    Calls Try.prog 13 #[.pointer (some ⟨g, 0, none⟩)] w fun e w' => ∃ v', e = .returned v' ∧ w'.ownsRow 0 5 1 v' ((L.length + 7) / 8) ((pad L).map (Value.int .u8)) ∧ Same w w' ∧ Fresh w v' := by
  have c0 : w.cell? ⟨g, 0, none⟩ = some v := by rw [blk_cell hw.blk]; rfl
  have c1 : w.cell? ⟨g, 1, none⟩ = some (.int .u64 (val (L.drop (8 * (L.length / 8))))) := by rw [blk_cell hw.blk]; rfl
  have c2 : w.cell? ⟨g, 2, none⟩ = some (.int .i64 ((L.length - 8 * (L.length / 8) : Nat))) := by rw [blk_cell hw.blk]; rfl
  have hlen : (octs L (L.length / 8)).length = L.length / 8 := length_octs _ _
  obtain ⟨A, c, rfl, hreads⟩ := own_reads hw.own
  have hcl := clone_any A c (octs L (L.length / 8)) w (by rw [hlen]; exact hreads) (by rw [hlen]; omega)
  rw [hlen] at hcl
  have HC := Lib.hid hcl
  clear hcl hreads hlen
  have HW := Lib.hid hw; clear hw
  by_cases h0 : L.length % 8 = 0
  · have hn : ¬ (0 : Int) < (L.length - 8 * (L.length / 8) : Nat) := by omega
    have HP := Lib.hid (pad_full L h0)
    clear h0
    go_enter Try.func13, Try.ntmps13
    go_wp2_with (go_at_call 23; refine HC.out.mono ?_; rintro e w1 ⟨v', rfl, hown, hfr, hloc⟩; have d2 := hfr.cell c2 (fun h => h); have HO := Lib.hid hown; clear hown; have HF := Lib.hid hfr; clear hfr; have HL := Lib.hid hloc; clear hloc)
    go_ret
    exact ⟨_, rfl, by rw [HP.out.1, HP.out.2]; exact HO.out, HF.out, HL.out⟩
  · have hn : (0 : Int) < (L.length - 8 * (L.length / 8) : Nat) := by omega
    have HP := Lib.hid (pad_part L h0)
    clear h0
    have hbt : (L.length / 8 + 1) * 1 ≤ 140737488355328 := by omega
    obtain ⟨i0, hi, hz0, hz1, hz2⟩ := info_parts info5
    go_enter Try.func13, Try.ntmps13
    go_wp2_with (first
      | (go_at_call 23; refine HC.out.mono ?_; rintro e w1 ⟨v', rfl, hown, hfr, hloc⟩; have d2 := hfr.cell c2 (fun h => h); have d1 := hfr.cell c1 (fun h => h); obtain ⟨A2, k2, rfl⟩ := own_shape hown; have HO := Lib.hid hown; clear hown; have HF := Lib.hid hfr; clear hfr; have HL := Lib.hid hloc; clear hloc)
      | (at_builtin; refine wpList_append_one rfl (.tmp 16) (.tmp 22) 25 rfl i0 (.int .u8 0) 1 Try.underlying25 hi hz0 hz1 hz2 rfl (.slice A2 (L.length / 8) k2) (L.length / 8) ((octs L (L.length / 8)).map (Value.int .u8)) rfl rfl HO.out rfl (by decide) hbt ?_; intro v2 w2 hown2 hfr2 hloc2; obtain ⟨A3, k3, rfl⟩ := own_shape hown2; have HO2 := Lib.hid hown2; clear hown2; have HF2 := Lib.hid hfr2; clear hfr2; have HL2 := Lib.hid hloc2; clear hloc2))
    go_ret
    refine ⟨.slice A3 (L.length / 8 + 1) k3, rfl, ?_, HF.out.trans HF2.out (fun _ _ h => h) (fun j hj h => ?_), ?_⟩
    · have e : ((val (L.drop (8 * (L.length / 8))) : Int) % 256) = (byteAt L (L.length / 8) : Int) := by
        unfold byteAt
        rw [val_take]
        omega
      have := HO2.out
      rw [e] at this
      rw [HP.out.1, HP.out.2, List.map_append]
      exact this
    · have := HL.out j h.symm
      omega
    · intro j hj
      rcases HL2.out with h | ⟨b, h, hb⟩
      · exact HL.out j (by rw [← h]; exact hj)
      · rw [h] at hj
        injection hj with hj
        have := HF.out.size
        omega

set_option maxHeartbeats 1000000 in
theorem rnew_any (A : Option Addr) (c : Nat) (xs : List Int) (w : World) (hr : Reads w .u8 A xs.length xs) (hx : ∀ x ∈ xs, 0 ≤ x ∧ x ≤ 255) (hL : xs.length ≤ 10000) :
    Calls Try.prog 16 #[.slice A xs.length c] w fun e w' => ∃ v, e = .returned (.pointer (some ⟨w.heap.size, 0, none⟩)) ∧ IsB w' w.heap.size v (unbits xs) 0 ∧ Same w w' ∧ Fresh w v := by
  have HR := Lib.hid hr; clear hr
  have HX := Lib.hid hx; clear hx
  go_enter Try.func16, Try.ntmps16
  go_wp2
  go_loopw [4] (fun i wr => ∃ (k : Nat) (v : Value), k ≤ xs.length ∧ i = .int .i64 k ∧ IsB wr w.heap.size v (unbits (xs.take k)) 0 ∧ Same w wr ∧ Fresh w v) (fun i _ => xs.length - (intOf i).toNat)
  case atStart =>
    refine ⟨0, .slice none 0 0, Nat.zero_le _, rfl, ⟨blk_new _ _, World.ownsRow_nil _ _ _ _⟩, (Fr.refl _ _).alloc _, fun j hj => by simp [Value.ownBlock] at hj⟩
  case round =>
    obtain ⟨k, v, hk, rfl, hB, hS, hF⟩ := hrel
    by_cases hkl : k < xs.length
    · obtain ⟨b, o, rfl, hc⟩ := HR.out.2.2 (by omega)
      have c0 : wr.cell? ⟨b, o + k, none⟩ = some (.int .u8 (xs.getD k 0)) := hS.cell (hc k hkl) (fun h => h)
      clear hc
      have hmem : xs.getD k 0 ∈ xs := by rw [List.getD, List.getElem?_eq_getElem hkl]; exact List.getElem_mem hkl
      obtain ⟨x0, x1⟩ := HX.out _ hmem
      have HE := Lib.hid (show unbits (xs.take (k + 1)) = unbits (xs.take k) ++ bitsOf (xs.getD k 0).toNat 8 by
        rw [List.take_succ_eq_append_getElem hkl, unbits_append, List.getD, List.getElem?_eq_getElem hkl]; simp [unbits])
      have hl : (unbits (xs.take k)).length ≤ 1000000 := by rw [length_unbits, List.length_take]; omega
      generalize xs.getD k 0 = x at *
      have hput := rput_good w.heap.size v (unbits (xs.take k)) 0 x 8 wr x0 (by omega) ⟨by omega, by omega, by show x < 256; omega⟩ hB hl
      have HPut := Lib.hid hput; clear hput
      have HS := Lib.hid hS; clear hS
      have HF := Lib.hid hF; clear hF
      clear hB hmem
      go_wp2_with (go_at_call 11; refine HPut.out.mono ?_; rintro e w2 ⟨rfl, v2, hB2, hT2⟩; have HB2 := Lib.hid hB2; clear hB2; have HT2 := Lib.hid hT2; clear hT2)
      go_roundw
      case rel =>
        refine ⟨k + 1, v2, by omega, by go_num, by rw [HE.out]; exact HB2.out, HS.out.trans HT2.out.fr (fun _ _ h => h) (fun j hj h => ?_), fun j hj => ?_⟩
        · rcases h with h | h
          · omega
          · have := HF.out j h.symm; omega
        · rcases HT2.out.row with h | ⟨b, h, hb⟩
          · exact HF.out j (by rw [← h]; exact hj)
          · rw [h] at hj; injection hj with hj; have := HS.out.size; omega
      case measure => simp [intOf]; omega
    · obtain rfl : k = xs.length := by omega
      rw [List.take_length] at hB
      have HB := Lib.hid hB; clear hB
      go_wp2
      go_ret
      exact ⟨v, rfl, HB.out, hS, hF⟩
end Go.Proofs.Ytghahbododnafaa
