/- The walks of both long. -/
import Derived.Test.YtclamfdmgflofaaMxCheck
namespace Go.Proofs.Ytclamfdmgflofaa
open Go.RowKit
open Mx

theorem lngUp_more (b : List Int) (i j k : Nat) (hk : k < 258) (h1 : i + k < b.length) (h2 : b.getD (i + k) 0 = b.getD (j + k) 0) : lngUp b i j (258 - k) k = lngUp b i j (258 - (k + 1)) (k + 1) := by
  rw [show 258 - k = (258 - (k + 1)) + 1 by omega, lngUp, if_pos ⟨h1, h2⟩]
theorem lngUp_stop (b : List Int) (i j k : Nat) (h : ¬ (i + k < b.length ∧ b.getD (i + k) 0 = b.getD (j + k) 0)) : lngUp b i j (258 - k) k = k := by
  cases hk : 258 - k with
  | zero => rfl
  | succ f => rw [lngUp, if_neg h]

set_option maxRecDepth 20000 in
set_option maxHeartbeats 2000000 in
theorem long_any (g : Nat) (A : Option Addr) (c : Nat) (b : List Int) (i j n : Nat) (w : World) (hn : b.length = n) (c0 : w.cell? ⟨g, 0, none⟩ = some (.slice A n c)) (hr : Reads w .u8 A n b) (hl : n ≤ 100000) (hi : i ≤ n) (hj : j < i) :
    Calls Try.prog 22 #[.pointer (some ⟨g, 0, none⟩), .int .i64 i, .int .i64 j] w fun e w' => e = .returned (.int .i64 (lng b i j)) ∧ Same w w' := by
  have HR := Lib.hid hr; clear hr
  have HN := Lib.hid hn; clear hn
  have hlt : g < w.heap.size := World.block_lt_of_cell? w _ c0
  go_enter Try.func22, Try.ntmps22
  go_wp2
  go_loopw [6] (fun v wr => ∃ k : Nat, v = .int .i64 k ∧ k ≤ 258 ∧ Hid (lng b i j = lngUp b i j (258 - k) k) ∧ Same w wr) (fun v _ => 258 - (intOf v).toNat)
  case atStart => exact ⟨0, rfl, by omega, (rfl : lng b i j = lngUp b i j (258 - 0) 0), Fr.refl _ _⟩
  case round =>
    obtain ⟨k, rfl, hk, HK, hS⟩ := hrel
    have d0 := hS.cell c0 (fun h => h)
    have HRR := Lib.hid (HR.out.fr hS (fun _ _ _ h => h))
    have HS := Lib.hid hS; clear hS
    by_cases h258 : (k : Int) < 258
    · by_cases hin : (i : Int) + k < n
      · obtain ⟨p, o, rfl, hc⟩ := HRR.out.2.2 (by omega)
        have ci := hc (i + k) (by omega)
        have cj := hc (j + k) (by omega)
        clear hc
        by_cases heq : b.getD (i + k) 0 = b.getD (j + k) 0
        · have HM := Lib.hid (lngUp_more b i j k (by omega) (by rw [HN.out]; omega) heq)
          rw [heq] at ci
          generalize b.getD (j + k) 0 = x at *
          clear heq
          go_wp2
          go_quiet (fail)
          go_wp2
          go_roundw
          case rel => exact ⟨k + 1, by go_num, by omega, (HK.out.trans HM.out : lng b i j = lngUp b i j (258 - (k + 1)) (k + 1)), HS.out.drewN _⟩
          case measure => simp [intOf]; omega
        · have HM := Lib.hid (lngUp_stop b i j k (fun h => heq h.2))
          have heb : (b.getD (i + k) 0 == b.getD (j + k) 0) = false := by rw [beq_eq_false_iff_ne]; exact heq
          generalize b.getD (j + k) 0 = x at *
          generalize b.getD (i + k) 0 = y at *
          clear heq
          go_wp2
          go_quiet (fail)
          go_wp2
          go_ret
          exact ⟨ret_i64 (by rw [HK.out, HM.out]), HS.out.drewN _⟩
      · have hwr : IntKind.i64.wrap ((i : Int) + (k : Int)) = (i : Int) + k := by rw [IntKind.wrap_i64]; omega
        have hd : decide ((i : Int) + (k : Int) < (n : Int)) = false := decide_eq_false hin
        have HM := Lib.hid (lngUp_stop b i j k (fun h => hin (by have := h.1; rw [HN.out] at this; omega)))
        go_wp2
        go_quiet (fail)
        go_wp2
        go_ret
        exact ⟨ret_i64 (by rw [HK.out, HM.out]), HS.out.drewN _⟩
    · have hk' : k = 258 := by omega
      have HM := Lib.hid (show lngUp b i j (258 - k) k = k by rw [hk']; rfl)
      clear hk'
      have hd : decide ((k : Int) < 258) = false := decide_eq_false h258
      go_wp2
      go_quiet (fail)
      go_wp2
      go_ret
      exact ⟨ret_i64 (by rw [HK.out, HM.out]), HS.out.drewN _⟩
end Go.Proofs.Ytclamfdmgflofaa
