/- The walk of FilesNames. -/
import Derived.Test.YtlgonkopojancaaDoorFxAwk
namespace Go.Proofs.YtlgonkopojancaaDoor
open Go.RowKit

set_option maxHeartbeats 400000 in
theorem filesNames_walk (w : World) (m : Int) (hm : w.cell? ⟨0, 0, none⟩ = some (.int .i64 m)) : Calls Tryd.prog 3 #[] w fun e w' => e = .returned (.bool true) ∧ Below w.heap.size w w' := by
  have HA := Lib.hid (awake_any m w hm)
  clear hm
  go_enter Tryd.func3, Tryd.ntmps3
  go_wp2_with (go_at_call 11; refine HA.out.mono ?_; rintro e w1 ⟨rfl, hb⟩; have HB := Lib.hid hb; clear hb)
  go_ret
  exact ⟨rfl, HB.out⟩
example (w : World) (h : w.ShapedOpen Tryd.prog) : ∃ m, w.cell? ⟨0, 0, none⟩ = some (.int .i64 m) := Tryd.laysM146.s1_3 w h
end Go.Proofs.YtlgonkopojancaaDoor
