/- The deferred closure of Decode. -/
import Derived.Test.YtlgonkopojancaaDoorFxFile
import Derived.Recover
import Derived.Defers
namespace Go.Proofs.YtlgonkopojancaaDoor
open Go.RowKit

def EIXR : List PanicEntry := [{ v := .iface 26 (.int .i64 162), recovered := true }]
set_option maxHeartbeats 1000000 in
theorem catch_panic (r1 r2 : Nat) (w : World) (x y : Value) (h1 : w.heap[r1]? = some (.cells #[x] 23 (0, 0))) (h2 : w.heap[r2]? = some (.cells #[y] 26 (0, 0))) (hne : r1 ≠ r2) :
    CallsD Tryd.prog 43 #[.pointer (some ⟨r1, 0, none⟩), .pointer (some ⟨r2, 0, none⟩)] (.panicking EIX) w fun e u' w' =>
      e = .returned (.tuple #[]) ∧ u' = .panicking EIXR ∧ w' = (w.setCell ⟨r1, 0, none⟩ (.slice none 0 0)).setCell ⟨r2, 0, none⟩ (.int .i64 162) := by
  have c1 : w.cell? ⟨r1, 0, none⟩ = some x := by rw [blk_cell h1]; rfl
  have c2 : w.cell? ⟨r2, 0, none⟩ = some y := by rw [blk_cell h2]; rfl
  have f1 := blk_frozen h1 0
  have f2 := blk_frozen h2 0
  have hta : ∀ w, (Instr.typeAssert (.iface 26 (.int .i64 162)) 20 26 true).run Tryd.prog w = .ok (.tuple #[.int .i64 162, .bool true]) w := fun w => by kernel_rfl
  have h3 : (w.setCell ⟨r1, 0, none⟩ (.slice none 0 0)).cell? ⟨r2, 0, none⟩ = some y := by rw [blk_cell (blk_far h2 (p := ⟨r1, 0, none⟩) (fun e => hne e.symm) _)]; rfl
  have h4 := blk_frozen (blk_far h2 (p := ⟨r1, 0, none⟩) (fun e => hne e.symm) (.slice none 0 0)) 0
  refine callsD_of_wpS Tryd.func43 rfl fun c₀ cs hu => ?_
  apply wpS_seq
  apply wpS_region
  simp [wpOpsS, go_sem, recoverD, hu, EIX, Tryd.ntmps43, Exit.thenS]
  change Code.wpS _ _ _ { tmps := #[.pointer (some ⟨r1, 0, none⟩), .pointer (some ⟨r2, 0, none⟩), .iface 26 (.int .i64 162), undef, undef, .iface 26 (.int .i64 162), undef, undef, undef, undef, undef, undef, undef, undef, undef, undef, undef], defers := [] } _ _
  refine wpS_of_wp ?_
  go_wp2
  exact ⟨rfl, .panicking EIXR, rfl, .tuple #[], by simp [results, Tryd.results43], rfl, rfl, rfl⟩
theorem catch_idle (r1 r2 : Nat) (w : World) :
    CallsD Tryd.prog 43 #[.pointer (some ⟨r1, 0, none⟩), .pointer (some ⟨r2, 0, none⟩)] .returning w fun e u' w' => e = .returned (.tuple #[]) ∧ u' = .returning ∧ w' = w := by
  refine callsD_of_wpS Tryd.func43 rfl fun c₀ cs hu => ?_
  apply wpS_seq
  apply wpS_region
  simp [wpOpsS, go_sem, recoverD, hu, Tryd.ntmps43, Exit.thenS]
  change Code.wpS _ _ _ { tmps := #[.pointer (some ⟨r1, 0, none⟩), .pointer (some ⟨r2, 0, none⟩), .nilIface, undef, undef, .nilIface, undef, undef, undef, undef, undef, undef, undef, undef, undef, undef, undef], defers := [] } _ _
  refine wpS_of_wp ?_
  go_wp2
  refine ⟨rfl, .returning, ?_, .tuple #[], by simp [results, Tryd.results43], rfl, rfl, rfl⟩
  cases c₀
  simp_all
end Go.Proofs.YtlgonkopojancaaDoor
