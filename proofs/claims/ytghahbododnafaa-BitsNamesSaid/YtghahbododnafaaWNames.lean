/- The walk of BitsNames. -/
import Derived.Test.YtghahbododnafaaOpen
namespace Go.Proofs.Ytghahbododnafaa
open Go.RowKit

set_option maxHeartbeats 400000 in
theorem bitsNames_walk (w : World) : Calls Try.prog 3 #[] w fun e w' => e = .returned (.bool true) ∧ Below w.heap.size w w' := by
  go_enter Try.func3, Try.ntmps3
  go_wp2_with (go_at_call 9; refine (awake_any w).mono ?_; rintro e w1 ⟨rfl, hb⟩; have HB := Lib.hid hb; clear hb)
  go_ret
  exact ⟨rfl, HB.out⟩
end Go.Proofs.Ytghahbododnafaa
