/- The walk of Size. -/
import Derived.Test.YtobepippjhmeaaaDoorBkPure
import Derived.Test.YtobepippjhmeaaaDoorBkLib
import Derived.Test.YtobepippjhmeaaaDoorRows
namespace Go.Proofs.YtobepippjhmeaaaDoor
open Go.RowKit
open Bk

theorem pow_int (j : Nat) : ((256 * 2 ^ j : Nat) : Int) = 256 * 2 ^ j := by simp

def SizeJ (n : Nat) (w0 : World) (a : Act) (w : World) : Prop :=
  ∃ (u : Nat → Value) (j q : Nat), a = { tmps := #[.int .i64 n, undef, .int .i64 0, .int .i64 0, .int .i64 q, u 5, u 6, u 7, u 8, u 9, u 10, u 11, u 12, u 13, u 14, u 15, u 16, u 17, u 18, u 19, u 20, u 21, u 22, u 23, u 24, u 25], defers := [] } ∧ q = 256 * 2 ^ j ∧ j < 12 ∧ (j = 0 ∨ 4 * q < n) ∧ w = w0
def SizeMu (n : Nat) (a : Act) (_ : World) : Nat := ((n : Int) - intOf (a.tmps.getD 4 undef)).toNat
theorem sizeJ_act {n j : Nat} {q : Int} {w : World} {u5 u6 u7 u8 u9 u10 u11 u12 u13 u14 u15 u16 u17 u18 u19 u20 u21 u22 u23 u24 u25 : Value} (hq : q = (256 * 2 ^ j : Nat)) (hj : j < 12) (h : j = 0 ∨ 4 * (256 * 2 ^ j) < n) :
    SizeJ n w { tmps := #[.int .i64 n, undef, .int .i64 0, .int .i64 0, .int .i64 q, u5, u6, u7, u8, u9, u10, u11, u12, u13, u14, u15, u16, u17, u18, u19, u20, u21, u22, u23, u24, u25], defers := [] } w :=
  ⟨fun i => #[undef, undef, undef, undef, undef, u5, u6, u7, u8, u9, u10, u11, u12, u13, u14, u15, u16, u17, u18, u19, u20, u21, u22, u23, u24, u25].getD i undef, j, 256 * 2 ^ j, by rw [hq]; rfl, rfl, hj, h, rfl⟩


theorem ret_tup {a b : Int} (h : a = b) : Ending.returned (.tuple #[.int .i64 a, .int .i64 0]) = .returned (.tuple #[.int .i64 b, .int .i64 0]) := by rw [h]
theorem wrap64_small {x : Int} (h0 : 0 ≤ x) (h1 : x ≤ 9223372036854775807) : wrap64 x = x := by
  unfold wrap64; omega
theorem size_out {n j q : Nat} (hq : q = 256 * 2 ^ j) (h : j = 0 ∨ 4 * q < n) (h8 : n ≤ 8 * q) (hn : n ≤ 4194304) :
    (((n : Int) + q - 1) / q < 4 → wrap64 (4 * q) = (size n : Int)) ∧ (4 ≤ ((n : Int) + q - 1) / q → wrap64 (((n : Int) + q - 1) / q * q) = (size n : Int)) := by
  have e : size n = max ((n + q - 1) / q) 4 * q := by unfold size; rw [qOf_of j hq h8 h hn]
  have hle := size_le n hn
  have hp : 0 < q := by have : 0 < 2 ^ j := Nat.pow_pos (by decide); omega
  have e2 : ((n : Int) + q - 1) / q = (((n + q - 1) / q : Nat) : Int) := by
    rw [show ((n : Int) + q - 1) = ((n + q - 1 : Nat) : Int) by omega]; simp
  rw [e2]
  generalize (n + q - 1) / q = d at *
  refine ⟨fun hd => ?_, fun hd => ?_⟩
  · rw [Nat.max_eq_right (by omega)] at e
    rw [e] at hle ⊢
    rw [wrap64_small (by omega) (by omega)]; omega
  · rw [Nat.max_eq_left (by omega)] at e
    rw [e] at hle ⊢
    rw [← Int.natCast_mul, wrap64_small (by omega) (by omega)]

set_option maxHeartbeats 1000000 in
theorem size_bad (n : Int) (w : World) (h : ¬ (0 ≤ n ∧ n ≤ 4194304)) : Calls Tryd.prog 11 #[.int .i64 n] w fun e w' => e = .returned (.tuple #[.int .i64 0, .int .i64 1]) ∧ w' = w := by
  by_cases h1 : n < 0
  · go_enter Tryd.func11, Tryd.ntmps11
    go_wp2
    go_step3
    go_wp2
    rw [Exit.noGoto_ret]
    go_ret2
    exact ⟨rfl, rfl⟩
  · have h2 : 4194304 < n := by omega
    clear h
    go_enter Tryd.func11, Tryd.ntmps11
    go_wp2
    go_step3
    go_wp2
    rw [Exit.noGoto_ret]
    go_ret2
    exact ⟨rfl, rfl⟩

set_option maxHeartbeats 1000000 in
theorem size_good (n : Nat) (w : World) (hn : n ≤ 4194304) : Calls Tryd.prog 11 #[.int .i64 n] w fun e w' => e = .returned (.tuple #[.int .i64 (size n), .int .i64 0]) ∧ w' = w := by
  go_enter Tryd.func11, Tryd.ntmps11
  go_wp2
  refine wp_scope_loop 0 (SizeJ n w) (SizeMu n) rfl ?pass ?first
  case first =>
    intro hp
    have HP := Lib.hid hp; clear hp
    go_wp2
    go_step3
    simp only [Exit.then]
    rename_i hK
    refine hK _ _ (HP.out _ _ ?_)
    exact sizeJ_act (j := 0) rfl (by decide) (.inl rfl)
  case pass =>
    rintro a w1 ⟨u, j, q, rfl, hq, hj, h4, rfl⟩
    have hq0 : 0 < q := by have : 0 < 2 ^ j := Nat.pow_pos (by decide); omega
    have hqm : q ≤ 524288 := by
      have : 2 ^ j ≤ 2 ^ 11 := Nat.pow_le_pow_right (by decide) (by omega)
      omega
    have HQ := Lib.hid hq; clear hq
    have H4 := Lib.hid h4; clear h4
    by_cases h8 : (8 : Int) * q < n
    · go_wp2
      go_step3
      have E := HQ.out
      refine ⟨rfl, sizeJ_act (j := j + 1) ?_ ?_ ?_, ?_⟩
      · rw [Nat.pow_succ]; omega
      · rcases Nat.lt_or_ge (j + 1) 12 with hh | hh
        · exact hh
        · obtain rfl : j = 11 := by omega
          have : 2 ^ 11 = 2048 := by decide
          omega
      · right; rw [Nat.pow_succ]; omega
      · simp [SizeMu, intOf]; omega
    · have HO := Lib.hid (size_out HQ.out H4.out (by omega) hn)
      go_wp2
      all_goals
        simp only [Exit.jump]
        go_ret2
        refine ⟨?_, rfl⟩
        first
          | exact ret_tup (HO.out.1 (by omega))
          | exact ret_tup (HO.out.2 (by omega))
theorem size_any (n : Int) (w : World) : Calls Tryd.prog 11 #[.int .i64 n] w fun e w' => e = .returned (.tuple #[.int .i64 (sv n), .int .i64 (se n)]) ∧ w' = w := by
  unfold sv se
  by_cases h : 0 ≤ n ∧ n ≤ 4194304
  · rw [if_pos h, if_pos h]
    have := size_good n.toNat w (by omega)
    rw [Int.toNat_of_nonneg h.1] at this
    exact this
  · rw [if_neg h, if_neg h]
    exact size_bad n w h
end Go.Proofs.YtobepippjhmeaaaDoor
