/- The walk of Pad. -/
import Derived.Test.YtobepippjhmeaaaDoorBkTrim
namespace Go.Proofs.YtobepippjhmeaaaDoor
open Go.RowKit
open Bk

theorem reads_of_blk {w : World} {g : Nat} {t : TypeId} {xs : List Int} (h : w.heap[g]? = some (.cells (xs.map (Value.int .u8)).toArray t (0, 0))) (hl : xs.length ≤ 9223372036854775807) : Reads w .u8 (some ⟨g, 0, none⟩) xs.length xs :=
  ⟨rfl, hl, fun _ => ⟨g, 0, rfl, fun j hj => by
    rw [Nat.zero_add, blk_cell h]
    simp [List.getD, hj]⟩⟩

theorem own_full {w : World} {base g n : Nat} {e : TypeId} {xs : List Value} (h : w.ownsRow base e 1 (.slice (some ⟨g, 0, none⟩) n n) n xs) : w.heap[g]? = some (.cells xs.toArray e (0, 0)) := by
  rcases h.2 with ⟨h1, _⟩ | ⟨g', cap, cur, he, _, hh, hc, hm, hs, ht⟩
  · cases h1
  · injection he with e1 e2 e3
    injection e1 with e1
    injection e1 with e1
    subst e1; subst e3
    rw [hh, ← ht]
    have : cur.size = n := by simpa using hs
    simp [← this, ← Array.length_toList]

theorem pad_cells (zs : List Int) (hn : zs.length < 4194304) :
    (splice (List.replicate (size (zs.length + 1)) (Value.int .u8 0)) 0 (zs.map (Value.int .u8))).toArray.setIfInBounds zs.length (.int .u8 128) = ((padL zs).map (Value.int .u8)).toArray := by
  have hge := size_ge (zs.length + 1) (by omega)
  unfold splice padL
  generalize size (zs.length + 1) = n at *
  obtain ⟨k, rfl⟩ := Nat.exists_eq_add_of_le hge
  rw [List.setIfInBounds_toArray]
  congr 1
  rw [List.take_zero, List.nil_append, Nat.zero_add, List.length_map, List.drop_replicate, List.set_append_right _ _ (by simp), List.length_map, Nat.sub_self, show zs.length + 1 + k - zs.length = k + 1 by omega, show zs.length + 1 + k - (zs.length + 1) = k by omega,
    List.replicate_succ, List.set_cons_zero, List.map_append, List.map_cons, List.map_replicate]

theorem made_zero (n : Nat) : (madeCells (Value.int .u8 0).cells (n * 1)).toList = List.replicate n (Value.int .u8 0) := by
  rw [Nat.mul_one]
  show (madeCells #[Value.int .u8 0] _).toList = _
  rw [toList_madeCells_one]

theorem Reads.src {w : World} {A : Option Addr} {n : Nat} {xs : List Int} (h : Reads w .u8 A n xs) (hn : 0 < n) : ∃ ad, A = some ad ∧ ∀ j v, (xs.map (Value.int .u8))[j]? = some v → w.cell? (ad.add j) = some v := by
  obtain ⟨b, o, e, _⟩ := h.2.2 hn
  exact ⟨_, e, h.cells e hn⟩

theorem pad_hole {w : World} {g n k : Nat} {cs : List Value} (h : w.heap[g]? = some (.cells (splice (List.replicate n (Value.int .u8 0)) 0 cs).toArray 5 (0, 0))) (hl : cs.length = k) (hk : k < n) : w.cell? ⟨g, k, none⟩ = some (.int .u8 0) := by
  rw [blk_cell h]
  unfold splice
  rw [List.take_zero, List.nil_append, Nat.zero_add, hl, List.drop_replicate, List.getElem?_toArray, List.getElem?_append_right (by omega), List.getElem?_replicate, if_pos (by omega)]

set_option maxRecDepth 20000 in
set_option maxHeartbeats 1000000 in
theorem pad_any (A : Option Addr) (c : Nat) (zs : List Int) (w : World) (hr : Reads w .u8 A zs.length zs) (hl : zs.length ≤ 1000000) :
    Calls Tryd.prog 13 #[.slice A zs.length c] w fun e w' => ∃ A' c', e = .returned (.tuple #[.slice A' (padL zs).length c', .int .i64 0]) ∧ (padL zs).length ≤ c' ∧ Reads w' .u8 A' (padL zs).length (padL zs) ∧ Below w.heap.size w w' := by
  obtain ⟨i0, hi, hz0, hz1, hz2⟩ := info_parts info5
  have HS := Lib.hid (fun w => size_good (zs.length + 1) w (by omega))
  have HPC := Lib.hid (pad_cells zs (by omega))
  have HPL := Lib.hid (length_padL zs (by omega))
  have hge := size_ge (zs.length + 1) (by omega)
  have hle := size_le (zs.length + 1) (by omega)
  generalize size (zs.length + 1) = n at *
  have HR := Lib.hid hr; clear hr
  go_enter Tryd.func13, Tryd.ntmps13
  obtain ⟨cs, hcs⟩ : ∃ cs, cs = zs.map (Value.int .u8) := ⟨_, rfl⟩
  have hcl : cs.length = zs.length := by rw [hcs, List.length_map]
  have hc1 : ∀ v ∈ cs, v.oneCell' = true := by intro v hv; rw [hcs] at hv; obtain ⟨x, _, rfl⟩ := List.mem_map.1 hv; rfl
  have HCS := Lib.hid hcs; clear hcs
  have HC1 := Lib.hid hc1; clear hc1
  go_wp2_with (first
    | (go_at_call 11; refine (HS.out _).mono ?_; rintro e w1 ⟨rfl, rfl⟩)
    | (at_make; refine wpList_make_full _ rfl (.tmp 16) (.tmp 16) 23 rfl 0 5 i0 (.int .u8 0) 1 Tryd.underlying23 hi hz0 hz1 .i64 .i64 _ _ n rfl rfl (by omega) (by omega) (by rw [hz2]; omega) (by unfold maxLen; omega) (Nat.zero_le _) ?_; intro w2 hown hgrow; rw [made_zero] at hown; have HO := Lib.hid (own_full hown); clear hown; have HG := Lib.hid ((Fr.of_grown hgrow).below _ (Nat.le_refl _) (fun k _ e => by simp at e)); clear hgrow)
    | (refine wpList_copy_splice (o := ⟨some 21, _, _, _, _, _⟩) rfl (.tmp 19) (.tmp 20) 23 23 rfl 5 Tryd.underlying23 (by kernel_rfl) _ _ _ _ _ _ rfl rfl w1.heap.size 0 (List.replicate n (Value.int .u8 0)) 5 HO.out cs (by rw [hcl]; show _ = min _ _; omega) (fun h0 => ⟨rfl, by have := (HR.out.same HG.out).src (by omega); rw [← HCS.out] at this; exact this⟩) (by rw [List.length_replicate]; omega) HC1.out w1.heap.size w1 HG.out (Nat.le_refl _) ?_; intro w3 h3 hb3; have c0 := pad_hole h3.out hcl (by omega); have f0 := blk_frozen h3.out zs.length; have HB := Lib.hid hb3; clear hb3; rw [hcl]; clear hcl))

  go_ret2
  have hb4 := blk_set h3.out zs.length (.int .u8 128)
  rw [HCS.out, HPC.out] at hb4
  refine ⟨some ⟨w1.heap.size, 0, none⟩, n, by rw [HPL.out]; rfl, by rw [HPL.out]; exact Nat.le_refl _, reads_of_blk hb4 (by rw [HPL.out]; omega), below_fr ?_⟩
  exact (Fr.of_below HB.out).setCell _ _ (fun h => absurd h (Nat.lt_irrefl _))
end Go.Proofs.YtobepippjhmeaaaDoor
