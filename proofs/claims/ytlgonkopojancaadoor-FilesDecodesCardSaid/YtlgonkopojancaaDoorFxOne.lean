/- SortStableFunc at one file. -/
import Derived.Test.YtlgonkopojancaaDoorFxSort
namespace Go.Proofs.YtlgonkopojancaaDoor
open Go.RowKit

theorem ins_one (v : Value) (fv : Value) (w : World) : Calls Tryd.prog 57 #[v, .int .i64 0, .int .i64 1, fv] w fun e w' => e = .returned (.tuple #[]) ∧ w' = w := by
  go_enter Tryd.func57, Tryd.ntmps57
  go_wp2
  refine wp_loop_rounds 1 ?_
  rw [rounds_succ]
  go_wp2
  go_end0
  exact ⟨rfl, rfl⟩
theorem stable_one (v : Value) (fv : Value) (w : World) : Calls Tryd.prog 51 #[v, .int .i64 1, fv] w fun e w' => e = .returned (.tuple #[]) ∧ w' = w := by
  go_enter Tryd.func51, Tryd.ntmps51
  go_wp2
  refine wp_loop_rounds 1 ?_
  rw [rounds_succ]
  go_wp2_with (go_at_call 57; refine (ins_one _ _ _).mono ?_; rintro e w1 ⟨rfl, rfl⟩)
  refine wp_loop_rounds 1 ?_
  rw [rounds_succ]
  go_wp2
  go_end0
  exact ⟨rfl, rfl⟩
theorem stableCalls_one : StableCalls 1 := by
  intro W vs v ho
  obtain ⟨A, c, rfl⟩ := own_shape ho
  have HO := Lib.hid ho; clear ho
  go_enter Tryd.func34, Tryd.ntmps34
  go_wp2_with (go_at_call 51; refine (stable_one _ _ _).mono ?_; rintro e w1 ⟨rfl, rfl⟩)
  go_end0
  have hl := HO.out.1
  rw [length_flat] at hl
  exact ⟨rfl, vs, stable_short _ _ (by omega), HO.out, Fr.refl _ _⟩
theorem sort_one (fs : List Fi) (A : Option Addr) (c : Nat) (w : World) (hf : FRd w A 1 fs) (hb : ∀ f ∈ fs, f.body.length ≤ 1000000) :
    Calls Tryd.prog 16 #[.slice A 1 c] w fun e w' => ∃ v vs', e = .returned v ∧ w'.ownsRow 0 33 4 v 1 (flat vs') ∧ From w.heap.size v ∧ Below w.heap.size w w' ∧ Bod w' vs' ∧ StableOf Fi.name fs (vs'.map FV.f) := sort_walk fs A 1 c w hf (by decide) hb stableCalls_one
end Go.Proofs.YtlgonkopojancaaDoor
