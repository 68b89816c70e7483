/- The walk of bytes.Clone; Find's. -/
import Derived.Test.YtlgonkopojancaaDoorFxNum
import Derived.Test.YtlgonkopojancaaDoorFxShelf
import Derived.Test.YtlgonkopojancaaDoorFxName
import Derived.Lib.SliceRun
namespace Go.Proofs.YtlgonkopojancaaDoor
open Go.RowKit

set_option maxRecDepth 20000 in
set_option maxHeartbeats 1000000 in
theorem clone_any (A : Option Addr) (n c : Nat) (xs : List Int) (w : World) (h : Reads w .u8 A n xs) (hn : n ≤ 140737488355328) :
    Calls Tryd.prog 33 #[.slice A n c] w fun e w' => ∃ v', e = .returned v' ∧ w'.ownsRow 0 5 1 v' n (bts xs) ∧ From w.heap.size v' ∧ Below w.heap.size w w' := by
  have q25 : ∀ (w : World) (a : Option Addr) (n c n' c' : Nat), (binOp .eql 25 (.slice a n c) (.slice none n' c')).run Tryd.prog w = .ok (.bool a.isNone) w := fun w a n c n' c' => Lib.run_eql_slice_nil w _ _ a n c n' c' Tryd.underlying25
  cases A with
  | none =>
    obtain ⟨rfl, rfl⟩ := h.none
    go_enter Tryd.func33, Tryd.ntmps33
    go_wp2
    go_ret
    exact ⟨_, rfl, World.ownsRow_nil _ _ _ _, From.none _ _ _, Below.refl _ _⟩
  | some a =>
    have H := Lib.hid h; clear h
    have hlit : (w.alloc (.cells #[] 5)).ownsRow 0 5 1 (.slice (some ⟨w.heap.size, 0, none⟩) 0 0) 0 [] := World.ownsRow_lit w #[] 0 (Nat.zero_le _) (by decide) rfl
    have HLIT := Lib.hid hlit; clear hlit
    have HS : Hid (Same w (w.alloc (.cells #[] 5))) := (Fr.refl _ w).alloc _
    go_enter Tryd.func33, Tryd.ntmps33
    go_wp2_with (at_builtin; refine wpList_append_reads rfl (.tmp 5) (.tmp 6) 25 5 rfl Tryd.underlying25 info5 (.slice (some ⟨w.heap.size, 0, none⟩) 0 0) 0 n c (some a) [] xs rfl rfl HLIT.out (H.out.all HS.out (fun _ h => h)) (by omega) ?_; intro v4 w4 hown hfr hloc; have O4 := Lib.hid hown; have F4 := Lib.hid hfr; have L4 := Lib.hid hloc; clear hown hfr hloc)
    go_ret
    refine ⟨v4, rfl, by have := O4.out; simpa [bts] using this, ?_, ?_⟩
    · intro j hj
      rcases L4.out with h | h
      · rw [h] at hj; simp [Value.ownBlock] at hj; omega
      · rw [h] at hj; simp at hj; omega
    · exact (below_fr HS.out).trans (F4.out.below _ (by simp) (fun k hk e => by simp [Value.ownBlock] at e; omega))
end Go.Proofs.YtlgonkopojancaaDoor
