/- The walk of awake. -/
import Derived.Test.YtclamfdmgflofaaMxStr
import Derived.Lib.SlBytesConst
namespace Go.Proofs.Ytclamfdmgflofaa
open Go.RowKit
open Mx

def wake : List Int := [97, 98, 99, 100, 97, 98, 99, 100, 97, 98, 99, 100, 120]
theorem find_wake : find wake = [(97, 0, 0), (98, 0, 0), (99, 0, 0), (100, 0, 0), (0, 8, 4), (120, 0, 0)] := by decide +kernel
theorem ex_a : expand [] [(97, 0, 0), (0, 5, 1)] 9 = ([97, 97, 97, 97, 97, 97], 0) := by decide +kernel
theorem ex_b : expand [] [(0, 4, 1)] 9 = ([], 140) := by decide +kernel
theorem ex_c : expand [] [(97, 0, 0), (0, 5, 1)] 5 = ([], 151) := by decide +kernel

theorem reads_block {w : World} {g n : Nat} {xs : List Int} (h : w.heap[g]? = some (.cells (xs.map (Value.int .u8)).toArray 5 (0, 0))) (hn : xs.length = n) (hs : n ≤ 9223372036854775807) : Reads w .u8 (some ⟨g, 0, none⟩) n xs :=
  ⟨hn, hs, fun _ => ⟨g, 0, rfl, fun j hj => by
    rw [Nat.zero_add, blk_cell h]
    simp [List.getD, List.getElem?_eq_getElem (show j < xs.length by omega)]⟩⟩
theorem flat_get (ts : List Tok) : ∀ i, i < ts.length → (flat ts)[i * 3]? = some (.int .u8 (ts.getD i (0, 0, 0)).1) ∧ (flat ts)[i * 3 + 1]? = some (.int .i64 (ts.getD i (0, 0, 0)).2.1) ∧ (flat ts)[i * 3 + 2]? = some (.int .i64 (ts.getD i (0, 0, 0)).2.2) := by
  induction ts with
  | nil => intro i hi; simp at hi
  | cons t ts ih =>
    intro i hi
    have e : flat (t :: ts) = .int .u8 t.1 :: .int .i64 t.2.1 :: .int .i64 t.2.2 :: flat ts := rfl
    cases i with
    | zero => rw [e]; exact ⟨rfl, rfl, rfl⟩
    | succ i =>
      rw [e, show (i + 1) * 3 = i * 3 + 1 + 1 + 1 by omega]
      exact ih i (by simpa using hi)
theorem readsT_block {w : World} {g m : Nat} {ts : List Tok} (h : w.heap[g]? = some (.cells (flat ts).toArray 33 (0, 0))) (hm : ts.length = m) : ReadsT w (some ⟨g, 0, none⟩) m ts :=
  ⟨hm, fun _ => ⟨g, 0, rfl, fun i hi => by
    rw [blk_cell h, blk_cell h, blk_cell h, Nat.zero_add]
    simpa using flat_get ts i (by omega)⟩⟩
theorem own_readsT {w : World} {base m : Nat} {v : Value} {ts : List Tok} (h : w.ownsRow base 33 3 v m (flat ts)) (hm : ts.length = m) : ∃ A c, v = .slice A m c ∧ m ≤ c ∧ ReadsT w A m ts := by
  rcases h.2 with ⟨rfl, rfl⟩ | ⟨g, cap, cur, rfl, _, hh, hc, _⟩
  · exact ⟨none, 0, rfl, Nat.le_refl _, hm, fun hp => absurd hp (by omega)⟩
  · refine ⟨_, cap, rfl, hc, hm, fun hp => ⟨g, 0, rfl, fun i hi => ?_⟩⟩
    obtain ⟨b, c', e, hcc⟩ := own_cellsN h hp
    injection e with e1 _ _
    injection e1 with e1
    injection e1 with e1
    subst e1
    obtain ⟨f0, f1, f2⟩ := flat_get ts i (by omega)
    rw [Nat.zero_add]
    exact ⟨hcc _ _ f0, hcc _ _ f1, hcc _ _ f2⟩

theorem reads_wake (w : World) : Reads (w.alloc (.cells (wake.map (Value.int .u8)).toArray 5 (13, 14))) .u8 (some ⟨w.heap.size, 0, none⟩) 13 wake :=
  ⟨rfl, by decide, fun _ => ⟨w.heap.size, 0, rfl, fun j hj => by
    rw [Nat.zero_add, cell_of_row _ _ _ _ _ _ (blk_new w _)]
    have : j < wake.length := hj
    simp [List.getD, List.getElem?_eq_getElem this]⟩⟩
/-- a token's cells, of a row that is the call's own -/
theorem toks_new (w : World) (ts : List Tok) : ReadsT (w.alloc (.cells (flat ts).toArray 33)) (some ⟨w.heap.size, 0, none⟩) ts.length ts := readsT_block (blk_new w _) rfl

theorem wake_a : ∀ w : World, Calls Try.prog 14 #[.slice none 0 0, .slice (some ⟨w.heap.size, 0, none⟩) 2 2, .int .i64 9] (w.alloc (.cells #[.int .u8 97, .int .i64 0, .int .i64 0, .int .u8 0, .int .i64 5, .int .i64 1] 33)) fun e w' => ∃ A' c' U, e = .returned (.tuple #[.slice A' U c', .int .i64 0]) ∧ Reads w' .u8 A' U [97, 97, 97, 97, 97, 97] ∧ Below w.heap.size w w' := fun w => by
  have h := expand_any none 0 [] 0 (some ⟨w.heap.size, 0, none⟩) 2 [(97, 0, 0), (0, 5, 1)] 2 9 (w.alloc (.cells (flat [(97, 0, 0), (0, 5, 1)]).toArray 33)) rfl (Reads.nil _ _ _) (toks_new w _) (by decide) (by decide) (by decide) (by decide)
  rw [ex_a] at h
  exact h.mono fun e w' ⟨A', c', U, he, hr, hb⟩ => ⟨A', c', U, he, hr, ((Below.refl w.heap.size w).alloc (Nat.le_refl _) _).trans (hb.mono (by rw [World.size_alloc]; omega))⟩
theorem wake_b : ∀ w : World, Calls Try.prog 14 #[.slice none 0 0, .slice (some ⟨w.heap.size, 0, none⟩) 1 1, .int .i64 9] (w.alloc (.cells #[.int .u8 0, .int .i64 4, .int .i64 1] 33)) fun e w' => ∃ A' c' U, e = .returned (.tuple #[.slice A' U c', .int .i64 140]) ∧ Reads w' .u8 A' U [] ∧ Below w.heap.size w w' := fun w => by
  have h := expand_any none 0 [] 0 (some ⟨w.heap.size, 0, none⟩) 1 [(0, 4, 1)] 1 9 (w.alloc (.cells (flat [(0, 4, 1)]).toArray 33)) rfl (Reads.nil _ _ _) (toks_new w _) (by decide) (by decide) (by decide) (by decide)
  rw [ex_b] at h
  exact h.mono fun e w' ⟨A', c', U, he, hr, hb⟩ => ⟨A', c', U, he, hr, ((Below.refl w.heap.size w).alloc (Nat.le_refl _) _).trans (hb.mono (by rw [World.size_alloc]; omega))⟩
theorem wake_c : ∀ w : World, Calls Try.prog 14 #[.slice none 0 0, .slice (some ⟨w.heap.size, 0, none⟩) 2 2, .int .i64 5] (w.alloc (.cells #[.int .u8 97, .int .i64 0, .int .i64 0, .int .u8 0, .int .i64 5, .int .i64 1] 33)) fun e w' => ∃ A' c' U, e = .returned (.tuple #[.slice A' U c', .int .i64 151]) ∧ Reads w' .u8 A' U [] ∧ Below w.heap.size w w' := fun w => by
  have h := expand_any none 0 [] 0 (some ⟨w.heap.size, 0, none⟩) 2 [(97, 0, 0), (0, 5, 1)] 2 5 (w.alloc (.cells (flat [(97, 0, 0), (0, 5, 1)]).toArray 33)) rfl (Reads.nil _ _ _) (toks_new w _) (by decide) (by decide) (by decide) (by decide)
  rw [ex_c] at h
  exact h.mono fun e w' ⟨A', c', U, he, hr, hb⟩ => ⟨A', c', U, he, hr, ((Below.refl w.heap.size w).alloc (Nat.le_refl _) _).trans (hb.mono (by rw [World.size_alloc]; omega))⟩

set_option maxRecDepth 20000 in
set_option maxHeartbeats 4000000 in
theorem awake_any (w : World) : Calls Try.prog 10 #[] w fun e w' => e = .returned (.bool true) ∧ Below w.heap.size w w' := by
  have kc := fun (w : World) (C : Array Value) (n c : Nat) => Lib.run_convert_bytes_const (P := Try.prog) w 23 5 C n c Try.underlying23 Try.underlying5
  have e33 := eq33
  have g33 := guard33
  have B0 := Lib.hid (((Below.refl w.heap.size w).alloc (Nat.le_refl _) (.cells (wake.map (Value.int .u8)).toArray 5 (13, 14))))
  have HF := find_any (some ⟨w.heap.size, 0, none⟩) 13 wake 13 _ rfl (reads_wake w) (by decide) (by decide) (by decide)
  rw [find_wake] at HF
  have HF := Lib.hid HF
  go_enter Try.func10, Try.ntmps10
  go_wp2_with fail
  refine HF.out.mono ?_
  rintro e w1 ⟨v, rfl, h1, h2⟩
  have B1 := Lib.hid (B0.out.trans (h2.mono B0.out.size)); clear h2
  have h1 : w1.ownsRow 0 33 3 v 6 (flat [(97, 0, 0), (98, 0, 0), (99, 0, 0), (100, 0, 0), (0, 8, 4), (120, 0, 0)]) := h1
  obtain ⟨A, c, rfl, hc, hT⟩ := own_readsT h1 rfl
  have HT1 := Lib.hid hT; clear hT h1
  have hc6 : (6 : Int) ≤ (c : Int) := by omega
  clear hc
  go_wp2_with fail
  refine (wake_a w1).mono ?_
  rintro e w2 ⟨A2, c2, U2, rfl, hr, h2⟩
  have B2 := Lib.hid (B1.out.trans (h2.mono B1.out.size))
  have HT2 := Lib.hid (HT1.out.same h2); clear h2
  have hU : U2 = 6 := by have := hr.1; simp at this; omega
  subst hU
  have HR2 := Lib.hid hr; clear hr
  go_wp2_with fail
  refine (wake_b w2).mono ?_
  rintro e w3 ⟨A3, c3, U3, rfl, hr, h2⟩
  have B3 := Lib.hid (B2.out.trans (h2.mono B2.out.size))
  have HT3 := Lib.hid (HT2.out.same h2)
  have HR3 := Lib.hid (HR2.out.same h2); clear h2 hr
  go_wp2_with fail
  refine (wake_c w3).mono ?_
  rintro e w4 ⟨A4, c4, U4, rfl, hr, h2⟩
  have B4 := Lib.hid (B3.out.trans (h2.mono B3.out.size))
  have T4 := HT3.out.same h2
  have R4 := HR3.out.same h2
  clear h2 hr
  obtain ⟨b, o, rfl, hc⟩ := T4.2 (by decide)
  obtain ⟨p0, p1, p2⟩ := hc 4 (by decide)
  obtain ⟨q0, _, _⟩ := hc 5 (by decide)
  have p0 : w4.cell? ⟨b, o + 12, none⟩ = some (.int .u8 0) := p0
  have p1 : w4.cell? ⟨b, o + 13, none⟩ = some (.int .i64 8) := p1
  have p2 : w4.cell? ⟨b, o + 14, none⟩ = some (.int .i64 4) := p2
  have q0 : w4.cell? ⟨b, o + 15, none⟩ = some (.int .u8 120) := q0
  have qs := conv_reads (c := c2) R4
  have hs : (strOfNums [97, 97, 97, 97, 97, 97]).toList = [97, 97, 97, 97, 97, 97] := by rw [ByteArray.toList_eq]; rfl
  have ht : TokEq 0 8 4 0 8 4 = true := by decide
  have HCK := Lib.hid (fun w => check_any 0 8 4 w)
  have hck : ck (0, 8, 4) = 0 := by decide
  rw [hck] at HCK
  clear hc T4 R4 kc hck
  go_wp2_with (go_at_call 16; refine (HCK.out _).mono ?_; rintro e w5 ⟨rfl, h5⟩; have B5 := Lib.hid (B4.out.trans (h5.mono B4.out.size)); clear h5)
  go_ret
  exact ⟨rfl, B5.out⟩
end Go.Proofs.Ytclamfdmgflofaa
