/- The walk of awake. -/
import Derived.Test.YtobepippjhmeaaaDoorBkRUnpad
import Derived.Lib.SlBytesConst
namespace Go.Proofs.YtobepippjhmeaaaDoor
open Go.RowKit
open Bk

theorem size0 : size 0 = 1024 := by decide
theorem size1025 : size 1025 = 1280 := by decide
theorem size1793 : size 1793 = 2048 := by decide
theorem pad_a : (padL [97]).length = 1024 := by rw [length_padL _ (by decide)]; decide

theorem unpad_good (A : Option Addr) (c : Nat) (zs : List Int) (w : World) (hr : Reads w .u8 A (padL zs).length (padL zs)) (hc : (padL zs).length ≤ c) (hl : zs.length ≤ 10000) :
    Calls Tryd.prog 15 #[.slice A (padL zs).length c] w fun e w' => Gave w zs 0 e w' := by
  have h1 := unpad_any A c (padL zs) (zs.length + 1) w hr hc (by
    rw [length_padL _ (by omega)]
    rcases size_near (zs.length + 1) (by omega) with h | h <;> omega) (trim_pad zs)
  obtain ⟨e1, e2⟩ := unpad_pad zs (by omega) (trim_pad zs)
  rw [e1, e2] at h1
  exact h1

theorem zeros_trim (n : Nat) : IsTrim (List.replicate n (0 : Int)) 0 :=
  ⟨Nat.zero_le _, fun j _ hj => by simp [List.getD, List.getElem?_replicate] at hj ⊢; rw [if_pos hj]; rfl, fun h => absurd h (by omega)⟩

theorem made_ints (n : Nat) : (madeCells (Value.int .u8 0).cells (n * 1)).toList = (List.replicate n (0 : Int)).map (Value.int .u8) := by rw [made_zero, List.map_replicate]

theorem ret_bool {a b : Bool} (h : a = b) : Ending.returned (.bool a) = .returned (.bool b) := by rw [h]

theorem reads_a (w : World) : Reads (w.alloc (.cells #[.int .u8 97] 5 (1, 2))) .u8 (some ⟨w.heap.size, 0, none⟩) 1 [97] :=
  ⟨rfl, by decide, fun _ => ⟨w.heap.size, 0, rfl, fun j hj => by
    obtain rfl : j = 0 := by omega
    rw [Nat.zero_add, cell_of_row _ _ _ _ _ _ (blk_new w (.cells #[.int .u8 97] 5 (1, 2)))]
    rfl⟩⟩

theorem str_a : (strOfNums [97]).toList = [97] := by rw [ByteArray.toList_eq]; rfl

set_option maxRecDepth 20000 in
set_option maxHeartbeats 2000000 in
theorem awake_any (w : World) : Calls Tryd.prog 10 #[] w fun e w' => e = .returned (.bool true) ∧ Below w.heap.size w w' := by
  have kc := fun (w : World) (C : Array Value) (n c : Nat) => Lib.run_convert_bytes_const (P := Tryd.prog) w 23 5 C n c Tryd.underlying23 Tryd.underlying5
  have S0 := Lib.hid (fun w => size0 ▸ size_good 0 w (by decide))
  have S1 := Lib.hid (fun w => size1025 ▸ size_good 1025 w (by decide))
  have S2 := Lib.hid (fun w => size1793 ▸ size_good 1793 w (by decide))
  have hp := pad_any (some ⟨w.heap.size, 0, none⟩) 1 [97] (w.alloc (.cells #[.int .u8 97] 5 (1, 2))) (reads_a w) (by decide)
  have hU := fun A c w hr hc => unpad_good A c [97] w hr hc (by decide)
  have p0 : (padL [97]).getD 0 0 = 97 := rfl
  have p1 : (padL [97]).getD 1 0 = 128 := rfl
  have hzs : ∃ zz : List Int, zz.length = 1024 ∧ IsTrim zz 0 ∧ (madeCells (Value.int .u8 0).cells (1024 * 1)).toList = zz.map (Value.int .u8) := ⟨List.replicate 1024 0, List.length_replicate, zeros_trim 1024, made_ints 1024⟩
  obtain ⟨zz, hz1, hz2, hz3⟩ := hzs
  have hZ := fun A w (hr : Reads w .u8 A 1024 zz) => unpad_any A 1024 zz 0 w (by rw [hz1]; exact hr) (by omega) (by omega) hz2
  rw [hz1, (ue_bad (zs := zz) (t := 0) (fun h => absurd h.1 (by omega))).1, (ue_bad (zs := zz) (t := 0) (fun h => absurd h.1 (by omega))).2] at hZ
  have HZ := Lib.hid hZ; clear hZ
  have HMD := Lib.hid hz3; clear hz3 hz1 hz2
  obtain ⟨pl, hpl⟩ : ∃ pl, padL [97] = pl := ⟨_, rfl⟩
  have hl := pad_a
  rw [hpl] at hp hU hl p0 p1
  rw [hl] at hp hU
  have HP := Lib.hid hp; clear hp
  have HU := Lib.hid hU; clear hU
  have B0 := Lib.hid (((Below.refl w.heap.size w).alloc (Nat.le_refl _) (.cells #[.int .u8 97] 5 (1, 2))))
  clear hpl hl
  obtain ⟨i0, hi, hi0, hi1, hi2⟩ := info_parts info5
  go_enter Tryd.func10, Tryd.ntmps10
  go_wp2_with fail
  refine (S0.out _).mono ?_
  rintro e w1 ⟨rfl, rfl⟩
  go_wp2_with fail
  refine (S1.out _).mono ?_
  rintro e w2 ⟨rfl, rfl⟩
  go_wp2_with fail
  refine (S2.out _).mono ?_
  rintro e w3 ⟨rfl, rfl⟩
  go_wp2_with fail
  refine HP.out.mono ?_
  rintro e w4 ⟨A1, c1, rfl, hc1, h2, h3⟩
  have B4 := Lib.hid (B0.out.trans (h3.mono B0.out.size)); clear h3
  have R4 := Lib.hid h2; clear h2
  go_wp2_with fail
  refine (HU.out A1 c1 w4 R4.out hc1).mono ?_
  rintro e w5 ⟨A2, c2, rfl, h2, h3⟩
  have B5 := Lib.hid (B4.out.trans (h3.mono B4.out.size))
  have R5 := Lib.hid (R4.out.same h3); clear h3
  have U5 := Lib.hid h2; clear h2
  go_wp2_with (first
    | (at_make; refine wpList_make_full _ rfl (.const (.int .i64 1024)) (.const (.int .i64 1024)) 23 rfl 0 5 i0 (.int .u8 0) 1 Tryd.underlying23 hi hi0 hi1 .i64 .i64 _ _ 1024 rfl rfl (by omega) (by omega) (by rw [hi2]; decide) (by decide) (Nat.zero_le _) ?_; intro w6 hown hgrow; rw [HMD.out] at hown; have HO := Lib.hid hown; clear hown; have h6 := (Fr.of_grown hgrow).below _ (Nat.le_refl _) (fun k _ e => by simp at e); clear hgrow; have B6 := Lib.hid (B5.out.trans (h6.mono B5.out.size)); have R6 := Lib.hid (R5.out.same h6); have U6 := Lib.hid (U5.out.same h6); clear h6)
    | fail)
  obtain ⟨A6, c6, he, hr6⟩ := own_reads HO.out
  injection he with e1 e2 e3
  subst e1
  refine (HZ.out _ w6 hr6).mono ?_
  rintro e w7 ⟨A7, c7, rfl, h2, h3⟩
  have B7 := Lib.hid (B6.out.trans (h3.mono B6.out.size))
  obtain ⟨b, o, rfl, hc⟩ := (R6.out.same h3).2.2 (by decide)
  have c0 : w7.cell? ⟨b, o, none⟩ = some (.int .u8 (pl.getD 0 0)) := hc 0 (by decide)
  have c1 := hc 1 (by decide)
  have q : (convert 23 9 (.slice A2 1 c2)).run Tryd.prog w7 = .ok (.string (strOfNums [97])) w7 := conv_reads (c := c2) (U6.out.same h3)
  have qs := str_a
  rw [p0] at c0
  rw [p1] at c1
  clear hc h2 h3 p0 p1 hr6 e2 e3 hi hi0 hi1 hi2 kc
  go_wp2
  go_ret
  exact ⟨rfl, B7.out⟩
end Go.Proofs.YtobepippjhmeaaaDoor
