/- The walk of the finder's four, and of its key. -/
import Derived.Test.YtclamfdmgflofaaMxSame
import Derived.WalkLawsBesides
import Derived.Maps.OwnSet
import Derived.DeepKeys4
import Derived.WideKeyPair
namespace Go.Proofs.Ytclamfdmgflofaa
open Go.RowKit
open Mx

/-- the four bytes at a place, as a value -/
def k4 (b : List Int) (i : Nat) : Value := .agg #[.int .u8 (b.getD i 0), .int .u8 (b.getD (i + 1) 0), .int .u8 (b.getD (i + 2) 0), .int .u8 (b.getD (i + 3) 0)]

set_option maxRecDepth 20000 in
set_option maxHeartbeats 2000000 in
theorem four_out (g : Nat) (A : Option Addr) (c : Nat) (i n : Nat) (w : World) (c0 : w.cell? ⟨g, 0, none⟩ = some (.slice A n c)) (hl : n ≤ 100000) (hi : i ≤ n) (h : n < i + 4) :
    Calls Try.prog 21 #[.pointer (some ⟨g, 0, none⟩), .int .i64 i] w fun e w' => e = .returned (.tuple #[.agg #[.int .u8 0, .int .u8 0, .int .u8 0, .int .u8 0], .bool false]) ∧ Below w.heap.size w w' := by
  have hlt : g < w.heap.size := World.block_lt_of_cell? w _ c0
  have hI : (n : Int) < (i : Int) + 4 := by omega
  go_enter Try.func21, Try.ntmps21
  go_wp2
  exact bodyPost_ret (v := .tuple #[.agg #[.int .u8 0, .int .u8 0, .int .u8 0, .int .u8 0], .bool false]) (by simp [results, Try.results21, go_sem]) rfl ⟨rfl, (Below.refl _ _).alloc (Nat.le_refl _) _⟩

set_option maxRecDepth 20000 in
set_option maxHeartbeats 2000000 in
theorem four_in (g : Nat) (A : Option Addr) (c : Nat) (b : List Int) (i n : Nat) (w : World) (c0 : w.cell? ⟨g, 0, none⟩ = some (.slice A n c)) (hr : Reads w .u8 A n b) (hl : n ≤ 100000) (hc : n ≤ c) (h : i + 4 ≤ n) :
    Calls Try.prog 21 #[.pointer (some ⟨g, 0, none⟩), .int .i64 i] w fun e w' => e = .returned (.tuple #[k4 b i, .bool true]) ∧ Below w.heap.size w w' := by
  have hlt : g < w.heap.size := World.block_lt_of_cell? w _ c0
  have hI : (i : Int) + 4 ≤ (n : Int) := by omega
  have hnI : (n : Int) ≤ 100000 := by omega
  have hcI : (i : Int) + 4 ≤ (c : Int) := by omega
  have K : k4 b i = .agg #[.int .u8 (b.getD i 0), .int .u8 (b.getD (i + 1) 0), .int .u8 (b.getD (i + 2) 0), .int .u8 (b.getD (i + 3) 0)] := rfl
  have HK := Lib.hid K; clear K
  obtain ⟨p, o, rfl, hr'⟩ := hr.2.2 (by omega)
  have d0 := hr' i (by omega)
  have d1 := hr' (i + 1) (by omega)
  have d2 := hr' (i + 2) (by omega)
  have d3 := hr' (i + 3) (by omega)
  rw [← Nat.add_assoc] at d1 d2 d3
  have hp : p < w.heap.size := World.block_lt_of_cell? w _ d0
  generalize b.getD i 0 = x0 at *
  generalize b.getD (i + 1) 0 = x1 at *
  generalize b.getD (i + 2) 0 = x2 at *
  generalize b.getD (i + 3) 0 = x3 at *
  clear hr' hr hl hc h
  have hat : ∀ w, (Instr.arrayAt 50 (.slice (some ⟨p, o + i, none⟩) 4 (c - i))).run Try.prog w = .ok (.pointer (some ⟨p, o + i, none⟩)) w := fun w => run_arrayAt w 50 _ 4 _ 4 (c - i) Try.underlying50 (Nat.le_refl _)
  have hnlt : decide ((n : Int) < (i : Int) + 4) = false := decide_eq_false (by omega)
  go_enter Try.func21, Try.ntmps21
  go_wp2
  rw [HK.out]
  exact bodyPost_ret (v := .tuple #[.agg #[.int .u8 x0, .int .u8 x1, .int .u8 x2, .int .u8 x3], .bool true]) (by simp [results, Try.results21, go_sem]) rfl ⟨rfl, (Below.refl _ _).alloc (Nat.le_refl _) _⟩

theorem laidOut : laidOutB Try.prog = true := by kernel_rfl
theorem row50 : (50 : TypeId) < Try.prog.types.size := of_decide_eq_true (by kernel_rfl)
theorem wide50 : (match Try.prog.underlying 50 with | some (.array _ _) | some (.struct _) => true | _ => false) = true := by rw [Try.underlying50]
theorem law50 : Go.Maps.Keyed Try.prog 50 := Go.Maps.Keyed.of_law (deep_law_laid laidOut (m := 2) (by omega) row50 (by kernel_rfl) wide50)
theorem cells50 : Try.prog.cellsOf 50 = 4 := by kernel_rfl
theorem cells5 : Try.prog.cellsOf 5 = 1 := by kernel_rfl
theorem kt50 : Try.prog.keyType 50 = true := by kernel_rfl
/-- the four bytes at a place, as a key is told -/
def kl (b : List Int) (i : Nat) : Lit := .string (keyBytes [.int .u8 (b.getD i 0), .int .u8 (b.getD (i + 1) 0), .int .u8 (b.getD (i + 2) 0), .int .u8 (b.getD (i + 3) 0)])
theorem types_pos : ∃ m, Try.prog.types.size = m + 1 := by
  exact ⟨_, (Nat.succ_pred_eq_of_pos (Nat.lt_of_le_of_lt (Nat.zero_le _) row50)).symm⟩
theorem key_of {x0 x1 x2 x3 : Int} (w0 : (Lit.int .u8 x0).wf = true) (w1 : (Lit.int .u8 x1).wf = true) (w2 : (Lit.int .u8 x2).wf = true) (w3 : (Lit.int .u8 x3).wf = true) :
    keyOf Try.prog 50 (.agg #[.int .u8 x0, .int .u8 x1, .int .u8 x2, .int .u8 x3]) = some (.string (keyBytes [.int .u8 x0, .int .u8 x1, .int .u8 x2, .int .u8 x3])) := by
  obtain ⟨m, hm⟩ := types_pos
  unfold keyOf
  simp only [Try.underlying50]
  rw [if_pos (by simp [kt50, Value.formed, Try.underlying50, cells50]), hm]
  unfold Program.keyLits
  simp only [Try.underlying50, Value.cells]
  rw [if_pos (by rw [cells50]; rfl), show List.range 4 = [0, 1, 2, 3] from rfl, List.mapM_cons, List.mapM_cons, List.mapM_cons, List.mapM_cons, List.mapM_nil]
  simp [cells5, Program.keyLits, Try.underlying5, w0, w1, w2, w3]
theorem key_is (b : List Int) (i : Nat) (hb : ∀ x ∈ b, (Lit.int .u8 x).wf = true) : keyOf Try.prog 50 (k4 b i) = some (kl b i) := by
  have wf : ∀ j, (Lit.int .u8 (b.getD j 0)).wf = true := fun j => by
    rw [List.getD_eq_getElem?_getD]
    cases h : b[j]? with
    | none => decide
    | some x => exact hb x (List.mem_of_getElem? h)
  exact key_of (wf _) (wf _) (wf _) (wf _)
/-- two places have one key just if their bytes are the same -/
theorem kl_inj (b : List Int) (i j : Nat) (hb : ∀ x ∈ b, (Lit.int .u8 x).wf = true) : kl b i = kl b j ↔ ∀ k, k < 4 → b.getD (i + k) 0 = b.getD (j + k) 0 := by
  constructor
  · intro h
    have := law50.inj (key_is b i hb) (h ▸ key_is b j hb)
    simp only [k4, Value.agg.injEq, Array.mk.injEq, List.cons.injEq, Value.int.injEq, true_and, and_true] at this
    obtain ⟨h0, h1, h2, h3⟩ := this
    intro k hk
    rcases (show k = 0 ∨ k = 1 ∨ k = 2 ∨ k = 3 by omega) with rfl | rfl | rfl | rfl
    · exact h0
    · exact h1
    · exact h2
    · exact h3
  · intro h
    unfold kl
    have h0 := h 0 (by omega); have h1 := h 1 (by omega); have h2 := h 2 (by omega); have h3 := h 3 (by omega)
    rw [Nat.add_zero, Nat.add_zero] at h0
    rw [h0, h1, h2, h3]
theorem kl_key (b : List Int) (i : Nat) : WideAt.IsKeyLit (kl b i) := trivial
end Go.Proofs.Ytclamfdmgflofaa
