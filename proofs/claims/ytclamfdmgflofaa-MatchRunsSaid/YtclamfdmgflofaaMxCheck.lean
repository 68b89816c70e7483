/- The walks of both Check. -/
import Derived.Test.YtclamfdmgflofaaRows
import Derived.Test.YtclamfdmgflofaaMxLib
import Derived.Test.YtclamfdmgflofaaMxPure
namespace Go.Proofs.Ytclamfdmgflofaa
open Go.RowKit
open Mx

/-- what Check answers -/
def ck (t : Tok) : Int := if (t.2.1 = 0 ∧ t.2.2 = 0) ∨ (t.1 = 0 ∧ 4 ≤ t.2.1 ∧ t.2.1 ≤ 258 ∧ 1 ≤ t.2.2 ∧ t.2.2 ≤ 65535) then 0 else 140
/-- a token as a value -/
def tv (t : Tok) : Value := .agg #[.int .u8 t.1, .int .i64 t.2.1, .int .i64 t.2.2]
theorem ret_i64 {a b : Int} (h : a = b) : Ending.returned (.int .i64 a) = .returned (.int .i64 b) := by rw [h]

set_option maxRecDepth 20000 in
set_option maxHeartbeats 1000000 in
theorem check_any (by0 len far : Int) (w : World) : Calls Try.prog 16 #[.agg #[.int .u8 by0, .int .i64 len, .int .i64 far]] w fun e w' => e = .returned (.int .i64 (ck (by0, len, far))) ∧ Below w.heap.size w w' := by
  go_enter Try.func16, Try.ntmps16
  go_wp2
  all_goals
    go_ret
    refine ⟨ret_i64 ?_, (Below.refl w.heap.size w).alloc (Nat.le_refl _) _⟩
    unfold ck
    dsimp only
    split
    all_goals first
      | rfl
      | (exfalso; omega)
      | (exfalso; simp_all; omega)
      | (exfalso; simp_all; done)

set_option maxRecDepth 20000 in
set_option maxHeartbeats 1000000 in
theorem rcheck_any (by0 len far : Int) (w : World) : Calls Try.prog 17 #[.agg #[.int .u8 by0, .int .i64 len, .int .i64 far]] w fun e w' => e = .returned (.int .i64 (ck (by0, len, far))) ∧ Below w.heap.size w w' := by
  go_enter Try.func17, Try.ntmps17
  go_wp2
  all_goals
    go_ret
    refine ⟨ret_i64 ?_, (Below.refl w.heap.size w).alloc (Nat.le_refl _) _⟩
    unfold ck
    dsimp only
    split
    all_goals first
      | rfl
      | (exfalso; omega)
      | (exfalso; simp_all; omega)
      | (exfalso; simp_all; done)
end Go.Proofs.Ytclamfdmgflofaa
