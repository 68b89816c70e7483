/- The walk of the reference's Size. -/
import Derived.Test.YtobepippjhmeaaaDoorBkSize
namespace Go.Proofs.YtobepippjhmeaaaDoor
open Go.RowKit
open Bk

theorem rsize_out {n j c : Nat} (hj : j ≤ 12) (h4 : 4 ≤ c) (h7 : c ≤ 7) (h1 : n ≤ c * (256 * 2 ^ j)) (h2 : c = 4 ∨ (c - 1) * (256 * 2 ^ j) < n) (h3 : j = 0 ∨ 7 * (256 * 2 ^ j) < 2 * n) (hn : n ≤ 4194304) : c * (256 * 2 ^ j) = size n := by
  have hp : 0 < 256 * 2 ^ j := by have : 0 < 2 ^ j := Nat.pow_pos (by decide); omega
  by_cases h : c = 4 ∧ j ≠ 0 ∧ n ≤ 4 * (256 * 2 ^ j)
  · obtain ⟨rfl, hj0, hn4⟩ := h
    obtain ⟨i, rfl⟩ := Nat.exists_eq_succ_of_ne_zero hj0
    have e : 256 * 2 ^ (i + 1) = 2 * (256 * 2 ^ i) := by rw [Nat.pow_succ]; omega
    rw [show i.succ = i + 1 from rfl, e] at *
    have := size_of (n := n) i 8 (by omega) (by omega) (by omega) (by omega) (.inr (by omega)) (.inr (by omega)) hn
    rw [this]; omega
  · have hc : c = 4 → j = 0 := fun e => by
      rcases Nat.eq_zero_or_pos j with h0 | h0
      · exact h0
      · exact absurd ⟨e, by omega, by rw [e] at h1; exact h1⟩ h
    have h34 : j = 0 ∨ 4 * (256 * 2 ^ j) < n := by
      rcases Nat.eq_zero_or_pos j with h0 | h0
      · exact .inl h0
      · rcases h2 with h2 | h2
        · exact absurd (hc h2) (by omega)
        · right
          have : 4 ≤ c - 1 := by
            rcases Nat.lt_or_ge c 5 with h5 | h5
            · exact absurd (hc (by omega)) (by omega)
            · omega
          exact Nat.lt_of_le_of_lt (Nat.mul_le_mul_right _ this) h2
    have hj' : j < 12 := by
      rcases Nat.lt_or_ge j 12 with hh | hh
      · exact hh
      · have := pow_big hh
        omega
    exact (size_of j c hj' h4 (by omega) h1 h2 h34 hn).symm

set_option maxHeartbeats 1000000 in
theorem rsize_bad (n : Int) (w : World) (h : ¬ (0 ≤ n ∧ n ≤ 4194304)) : Calls Tryd.prog 12 #[.int .i64 n] w fun e w' => e = .returned (.tuple #[.int .i64 0, .int .i64 1]) ∧ w' = w := by
  by_cases h1 : n < 0
  · go_enter Tryd.func12, Tryd.ntmps12
    go_wp2
    go_ret2
    exact ⟨rfl, rfl⟩
  · have h2 : 4194304 < n := by omega
    clear h
    go_enter Tryd.func12, Tryd.ntmps12
    go_wp2
    go_ret2
    exact ⟨rfl, rfl⟩

set_option maxHeartbeats 1000000 in
theorem rsize_good (n : Nat) (w : World) (hn : n ≤ 4194304) : Calls Tryd.prog 12 #[.int .i64 n] w fun e w' => e = .returned (.tuple #[.int .i64 (size n), .int .i64 0]) ∧ w' = w := by
  go_enter Tryd.func12, Tryd.ntmps12
  go_wp2
  go_loopw [4] (fun p wr => ∃ j q : Nat, p = .int .i64 q ∧ Hid (q = 256 * 2 ^ j) ∧ j ≤ 12 ∧ (j = 0 ∨ 7 * q < 2 * n) ∧ wr = w) (fun p _ => 8388608 - (intOf p).toNat)
  case atStart => exact ⟨0, 256, rfl, (rfl : (256 : Nat) = 256 * 2 ^ 0), by omega, .inl rfl, rfl⟩
  case round =>
    obtain ⟨j, q, rfl, HQ, hj, h7, rfl⟩ := hrel
    have hq0 : 0 < q := by have : 0 < 2 ^ j := Nat.pow_pos (by decide); have := HQ.out; omega
    have hqm : q ≤ 1048576 := by
      have : 2 ^ j ≤ 2 ^ 12 := Nat.pow_le_pow_right (by decide) hj
      have := HQ.out
      omega
    have H7 := Lib.hid h7; clear h7
    go_wp2
    go_loopw [5] (fun m w2 => ∃ c : Nat, m = .int .i64 c ∧ 4 ≤ c ∧ c ≤ 8 ∧ Hid (c = 4 ∨ (c - 1) * q < n) ∧ w2 = wr) (fun m _ => 8 - (intOf m).toNat)
    case atStart => exact ⟨4, rfl, by omega, by omega, (.inl rfl : (4 = 4 ∨ (4 - 1) * q < n)), rfl⟩
    case round =>
      obtain ⟨c, rfl, hc4, hc8, HC, rfl⟩ := hrel
      by_cases hc7 : c ≤ 7
      · have hm : (c : Int) * q ≤ 7 * 1048576 := by
          rw [← Int.natCast_mul]
          have := Nat.mul_le_mul hc7 hqm
          omega
        have hm0 : 0 ≤ (c : Int) * q := by rw [← Int.natCast_mul]; omega
        by_cases hle : (n : Int) ≤ c * q
        · have key : (c : Int) * q = size n := by
            rw [← Int.natCast_mul] at hle ⊢
            have hq := HQ.out
            subst hq
            rw [rsize_out hj hc4 hc7 (by omega) HC.out H7.out hn]
          go_wp2
          go_ret2
          exact ⟨rfl, rfl⟩
        · have hle' : (c : Int) * q < n := by omega
          go_wp2
          go_roundw
          case rel => exact ⟨c + 1, by go_num, by omega, by omega, .inr (by rw [Nat.add_sub_cancel]; rw [← Int.natCast_mul] at hle'; omega), trivial⟩
          case measure => simp [intOf]; omega
      · obtain rfl : c = 8 := by omega
        have h7n : 7 * q < n := by
          rcases HC.out with h | h
          · omega
          · exact h
        go_wp2
        go_roundw
        case rel =>
          refine ⟨j + 1, 2 * q, by go_num, ?_, ?_, .inr (by omega), trivial⟩
          · have := HQ.out
            show 2 * q = 256 * 2 ^ (j + 1)
            rw [Nat.pow_succ]; omega
          · rcases Nat.lt_or_ge j 12 with hh | hh
            · omega
            · have := pow_big hh
              have := HQ.out
              omega
        case measure => simp [intOf]; omega
theorem rsize_any (n : Int) (w : World) : Calls Tryd.prog 12 #[.int .i64 n] w fun e w' => e = .returned (.tuple #[.int .i64 (sv n), .int .i64 (se n)]) ∧ w' = w := by
  unfold sv se
  by_cases h : 0 ≤ n ∧ n ≤ 4194304
  · rw [if_pos h, if_pos h]
    have := rsize_good n.toNat w (by omega)
    rw [Int.toNat_of_nonneg h.1] at this
    exact this
  · rw [if_neg h, if_neg h]
    exact rsize_bad n w h
end Go.Proofs.YtobepippjhmeaaaDoor
