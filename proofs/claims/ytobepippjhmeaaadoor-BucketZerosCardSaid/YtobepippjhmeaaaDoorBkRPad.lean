/- The walk of the reference's Pad. -/
import Derived.Test.YtobepippjhmeaaaDoorBkApp
namespace Go.Proofs.YtobepippjhmeaaaDoor
open Go.RowKit
open Bk

set_option maxRecDepth 20000 in
set_option maxHeartbeats 1000000 in
theorem rpad_any (A : Option Addr) (c : Nat) (zs : List Int) (w : World) (hr : Reads w .u8 A zs.length zs) (hl : zs.length ≤ 1000000) :
    Calls Tryd.prog 14 #[.slice A zs.length c] w fun e w' => ∃ A' c', e = .returned (.tuple #[.slice A' (padL zs).length c', .int .i64 0]) ∧ Reads w' .u8 A' (padL zs).length (padL zs) ∧ Below w.heap.size w w' := by
  have HS := Lib.hid (fun w => rsize_good (zs.length + 1) w (by omega))
  have HPL := Lib.hid (length_padL zs (by omega))
  have hge := size_ge (zs.length + 1) (by omega)
  have hle := size_le (zs.length + 1) (by omega)
  generalize size (zs.length + 1) = n at *
  have HR := Lib.hid hr; clear hr
  obtain ⟨L, hL⟩ : ∃ L, zs.length = L := ⟨_, rfl⟩
  rw [hL] at HS hge hl HR ⊢
  have HL := Lib.hid hL; clear hL
  have hlt : ¬ (4194304 : Int) ≤ (L : Int) := by omega
  go_enter Tryd.func14, Tryd.ntmps14
  have HL1 := Lib.hid hl; have HGE := Lib.hid hge; have HLE := Lib.hid hle; clear hge hle
  go_wp2_with fail
  refine (HS.out _).mono ?_
  rintro e w1 ⟨rfl, rfl⟩
  clear hlt
  go_wp2_with (first
    | (at_builtin; refine wpList_append_reads rfl (.tmp 17) (.tmp 18) 23 5 rfl Tryd.underlying23 info5 (.slice (some ⟨w1.heap.size, 0, none⟩) 0 0) 0 L c A [] zs rfl rfl (World.ownsRow_made w1 #[] 0 (Nat.zero_le _) (Nat.zero_le _) rfl) (HR.out.same (below_fr ((Fr.refl _ _).alloc _))) (by omega) ?_; intro v2 w2 hown hfr hloc; rw [Nat.zero_add] at hown; obtain ⟨A2, k2, rfl⟩ := own_shape hown; have HO2 := Lib.hid hown; clear hown; have HF2 := Lib.hid hfr; clear hfr; have HL2 := Lib.hid hloc; clear hloc)
    | (at_builtin; refine wpList_append_one rfl (.tmp 19) (.tmp 20) 23 rfl Tryd.t5 (.int .u8 0) 1 Tryd.underlying23 rfl rfl rfl rfl rfl (.slice A2 L k2) L ([] ++ zs.map (Value.int .u8)) rfl rfl HO2.out rfl (by decide) (by omega) ?_; intro v3 w3 hown hfr hloc; obtain ⟨A3, k3, rfl⟩ := own_shape hown; have HO3 := Lib.hid hown; clear hown; have HF3 := Lib.hid hfr; clear hfr; have HL3 := Lib.hid hloc; clear hloc)
    | (at_builtin; refine wpList_append_zeros rfl (.tmp 22) (.tmp 26) 23 3 5 rfl Tryd.t5 Tryd.underlying23 (k := .i64) Tryd.underlying3 rfl rfl rfl rfl (.slice A3 (L + 1) k3) (L + 1) (n - (L + 1)) _ rfl (by have h1 := HGE.out; have h2 := HLE.out; show Value.int .i64 _ = _; rw [wrap64_small (by omega) (by omega)]; congr 1; omega) HO3.out (by have h1 := HGE.out; have h2 := HLE.out; omega) ?_; intro v4 w4 hown hfr; obtain ⟨A4, k4, rfl⟩ := own_shape hown; have HO4 := Lib.hid hown; clear hown; have HF4 := Lib.hid hfr; clear hfr))
  go_ret2
  have h1 := HGE.out
  have e : ([] ++ zs.map (Value.int .u8)) ++ [Value.int .u8 128] ++ List.replicate (n - (L + 1)) (Value.int .u8 0) = (padL zs).map (Value.int .u8) := by
    have hs : size (zs.length + 1) = n := by rw [← length_padL zs (by rw [HL.out]; omega)]; exact HPL.out
    unfold padL
    rw [hs, HL.out]
    simp
  have ho := HO4.out
  rw [e, show L + 1 + (n - (L + 1)) = n by omega] at ho
  obtain ⟨A5, k5, he, hr5⟩ := own_reads ho
  injection he with e1 e2 e3
  subst e1
  refine ⟨A4, k4, ?_, by rw [HPL.out]; exact hr5, ?_⟩
  · rw [HPL.out]
    show Ending.returned (.tuple #[.slice A4 (L + 1 + (n - (L + 1))) k4, .int .i64 0]) = _
    rw [show L + 1 + (n - (L + 1)) = n by omega]
  · have B2 : From w1.heap.size (.slice A2 L k2) := fun j hj => by
      rcases HL2.out with h | h
      · rw [h] at hj; simp [Value.ownBlock] at hj; omega
      · rw [h] at hj; simp at hj; omega
    have s2 : w1.heap.size ≤ w2.heap.size := Nat.le_trans (by simp) HF2.out.size
    have B3 : From w1.heap.size (.slice A3 (L + 1) k3) := fun j hj => by
      rcases HL3.out with h | ⟨i, h, hi⟩
      · exact B2 j (by rw [← h]; exact hj)
      · rw [h] at hj; simp at hj; omega
    have f1 : Same w1 (w1.alloc (.cells #[] 5)) := (Fr.refl _ _).alloc _
    have b2 := (below_fr f1).trans (HF2.out.below w1.heap.size f1.size (fun k hk e => by simp [Value.ownBlock] at e; omega))
    have b3 := b2.trans (HF3.out.below w1.heap.size s2 (fun k hk e => by have := B2 k e.symm; omega))
    exact b3.trans (HF4.out.below w1.heap.size (Nat.le_trans s2 HF3.out.size) (fun k hk e => by have := B3 k e.symm; omega))
end Go.Proofs.YtobepippjhmeaaaDoor
