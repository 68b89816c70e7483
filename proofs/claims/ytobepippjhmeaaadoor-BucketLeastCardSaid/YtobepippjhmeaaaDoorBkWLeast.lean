/- The walk of BucketLeast. -/
import Derived.Test.YtobepippjhmeaaaDoorBkHelp
namespace Go.Proofs.YtobepippjhmeaaaDoor
open Go.RowKit
open Bk

/-- 4 to 7 times a power of two -/
def Hv (k : Nat) : Prop := ∃ i c, 4 ≤ c ∧ c ≤ 7 ∧ k = c * 2 ^ i
theorem Hv.ge {k : Nat} (h : Hv k) : 4 ≤ k := by
  obtain ⟨i, c, h4, _, rfl⟩ := h
  have : 0 < 2 ^ i := Nat.pow_pos (by decide)
  exact Nat.le_trans h4 (Nat.le_mul_of_pos_right _ this)
theorem Hv.half {k : Nat} (h : Hv k) (h7 : 7 < k) : k % 2 = 0 ∧ Hv (k / 2) := by
  obtain ⟨i, c, h4, hc7, rfl⟩ := h
  cases i with
  | zero => omega
  | succ i =>
    have e : c * 2 ^ (i + 1) = 2 * (c * 2 ^ i) := by rw [Nat.pow_succ, ← Nat.mul_assoc]; omega
    rw [e]
    refine ⟨by omega, i, c, h4, hc7, by omega⟩
theorem hv_size (n : Nat) (hn : n ≤ 4194304) : Hv (size n) := by
  obtain ⟨j, c, hj, h4, h8, e, _⟩ := size_spec n hn
  rw [e]
  rcases Nat.lt_or_ge c 8 with hc | hc
  · refine ⟨8 + j, c, h4, by omega, ?_⟩
    rw [Nat.pow_add]
  · obtain rfl : c = 8 := by omega
    refine ⟨9 + j, 4, by omega, by omega, ?_⟩
    rw [Nat.pow_add]
    have : 2 ^ 9 = 512 := by decide
    omega

set_option maxRecDepth 20000 in
set_option maxHeartbeats 2000000 in
theorem least_bad (w : World) (n m sa sb : Int) (ea eb : Int) (S1 : Hid (∀ w, Calls Tryd.prog 11 #[.int .i64 n] w fun e w' => e = .returned (.tuple #[.int .i64 sa, .int .i64 ea]) ∧ w' = w))
    (S2 : Hid (∀ w, Calls Tryd.prog 11 #[.int .i64 m] w fun e w' => e = .returned (.tuple #[.int .i64 sb, .int .i64 eb]) ∧ w' = w))
    (ha : ea = 0 ∨ ea = 1 ∧ n < 0 ∨ ea = 1 ∧ ¬ n < 0 ∧ 4194304 < n) (hb : eb = 0 ∨ eb = 1 ∧ m < 0 ∨ eb = 1 ∧ ¬ m < 0 ∧ 4194304 < m) (hab : ¬ (ea = 0 ∧ eb = 0)) :
    Calls Tryd.prog 6 #[.int .i64 n, .int .i64 m] w fun e w' => e = .returned (.bool true) ∧ Below w.heap.size w w' := by
  rcases ha with rfl | ⟨rfl, h1⟩ | ⟨rfl, h1, h2⟩ <;> rcases hb with rfl | ⟨rfl, h3⟩ | ⟨rfl, h3, h4⟩
  · exact absurd ⟨rfl, rfl⟩ hab
  all_goals
    clear hab
    go_enter Tryd.func6, Tryd.ntmps6
    go_wp2_with fail
    refine (awake_any w).mono ?_
    rintro e w1 ⟨rfl, hb⟩
    have B1 := Lib.hid hb; clear hb
    go_wp2_with fail
    refine (S1.out _).mono ?_
    rintro e w2 ⟨rfl, rfl⟩
    go_wp2_with fail
    refine (S2.out _).mono ?_
    rintro e w3 ⟨rfl, rfl⟩
    go_wp2
    go_ret
    exact ⟨rfl, B1.out⟩

theorem size_kind (n : Int) : ∃ s e : Int, (∀ w, Calls Tryd.prog 11 #[.int .i64 n] w fun r w' => r = .returned (.tuple #[.int .i64 s, .int .i64 e]) ∧ w' = w) ∧ (e = 0 ∨ e = 1 ∧ n < 0 ∨ e = 1 ∧ ¬ n < 0 ∧ 4194304 < n) ∧ (e = 0 ↔ 0 ≤ n ∧ n ≤ 4194304) := by
  by_cases h : 0 ≤ n ∧ n ≤ 4194304
  · obtain ⟨N, rfl⟩ := Int.eq_ofNat_of_zero_le h.1
    exact ⟨_, 0, fun w => size_good N w (by omega), .inl rfl, by simp [h]⟩
  · exact ⟨0, 1, fun w => size_bad n w h, by omega, by simp [h]⟩

set_option maxRecDepth 20000 in
set_option maxHeartbeats 2000000 in
theorem least_good (w : World) (N M : Nat) (hN : N ≤ 4194304) (hM : M ≤ 4194304) :
    Calls Tryd.prog 6 #[.int .i64 N, .int .i64 M] w fun e w' => e = .returned (.bool true) ∧ Below w.heap.size w w' := by
  have S1 := Lib.hid (fun w => size_good N w hN)
  have S2 := Lib.hid (fun w => size_good M w hM)
  have S3 := Lib.hid (fun w => size_self N hN ▸ size_good (size N) w (size_le N hN))
  have f1 := size_ge N hN
  have f2 : (M : Int) < N ∨ ¬ (M : Int) < N ∧ (size N : Int) ≤ size M := by
    rcases Nat.lt_or_ge M N with h | h
    · exact .inl (by omega)
    · exact .inr ⟨by omega, Int.ofNat_le.2 (size_mono N M hM h)⟩
  have f3 : (size N : Int) = 1024 ∨ ¬ (size N : Int) = 1024 ∧ (size N : Int) < N + N / 4 + 2 := by
    rcases size_near N hN with h | h <;> omega
  have f4 := size_le N hN
  have HV := Lib.hid (hv_size N hN)
  generalize size N = a at *
  generalize size M = b at *
  have g1 : (N : Int) ≤ a := by omega
  have g2 : (N : Int) ≤ 100000000 := by omega
  have F4 := Lib.hid f4
  clear f1 f4 hN hM
  go_enter Tryd.func6, Tryd.ntmps6
  go_wp2_with fail
  refine (awake_any w).mono ?_
  rintro e w1 ⟨rfl, hb⟩
  have B1 := Lib.hid hb; clear hb
  go_wp2_with fail
  refine (S1.out _).mono ?_
  rintro e w2 ⟨rfl, rfl⟩
  go_wp2_with fail
  refine (S2.out _).mono ?_
  rintro e w3 ⟨rfl, rfl⟩
  go_wp2_with fail
  refine (S3.out _).mono ?_
  rintro e w4 ⟨rfl, rfl⟩
  go_wp2
  go_loopw [12] (fun v wr => ∃ k : Nat, v = .int .i64 k ∧ Hid (Hv k) ∧ (k : Int) ≤ 100000000 ∧ Below w.heap.size w wr) (fun v _ => (intOf v).toNat)
  case atStart => exact ⟨a, rfl, HV, by have := F4.out; omega, B1.out⟩
  case round =>
    obtain ⟨k, rfl, HK, hk, hB⟩ := hrel
    have BB := Lib.hid hB; clear hB
    by_cases h7 : (7 : Int) < k
    · obtain ⟨h2, hh⟩ := HK.out.half (by omega)
      have h2' : (k : Int) % 2 = 0 := by omega
      have HH := Lib.hid hh
      clear h2 hh
      go_wp2
      go_roundw
      case rel => exact ⟨k / 2, by go_num, HH, by omega, BB.out⟩
      case measure => simp [intOf]; omega
    · have h4 : (4 : Int) ≤ k := by have := HK.out.ge; omega
      rcases f2 with f2 | ⟨f2, f5⟩ <;> rcases f3 with f3 | ⟨f3, f6⟩
      all_goals
        go_wp2
        go_ret
        first
          | exact ⟨rfl, BB.out⟩
          | exact ⟨ret_bool (by simp; omega), BB.out⟩

theorem bucketLeast_walk (w : World) (n : Int) (_ : -9223372036854775808 ≤ n ∧ n ≤ 9223372036854775807) (m : Int) (_ : -9223372036854775808 ≤ m ∧ m ≤ 9223372036854775807) :
    Calls Tryd.prog 6 #[.int .i64 n, .int .i64 m] w fun e w' => e = .returned (.bool true) ∧ Below w.heap.size w w' := by
  by_cases h : (0 ≤ n ∧ n ≤ 4194304) ∧ (0 ≤ m ∧ m ≤ 4194304)
  · obtain ⟨N, rfl⟩ := Int.eq_ofNat_of_zero_le h.1.1
    obtain ⟨M, rfl⟩ := Int.eq_ofNat_of_zero_le h.2.1
    exact least_good w N M (by omega) (by omega)
  · obtain ⟨sa, ea, h1, h2, h3⟩ := size_kind n
    obtain ⟨sb, eb, h4, h5, h6⟩ := size_kind m
    exact least_bad w n m sa sb ea eb h1 h4 h2 h5 (fun e => h ⟨h3.1 e.1, h6.1 e.2⟩)
end Go.Proofs.YtobepippjhmeaaaDoor
