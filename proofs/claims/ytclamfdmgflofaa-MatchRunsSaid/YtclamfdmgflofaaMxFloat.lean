/- Small whole numbers as float64: there and back, and how they compare. -/
import Derived.WalkKit
import Derived.Laws.FloatArith
namespace Go.Proofs.Ytclamfdmgflofaa
namespace Mx

/-- the datum of a small number -/
def dat (n : Nat) : Ieee.Datum := if n = 0 then .number false 0 (-1074) else .number false (n <<< (52 - n.log2)) ((n.log2 : Int) - 52)

def ok (n : Nat) : Bool := decide (FloatKind.f64.decode (floatOfInt .f64 (n : Int)) = dat n) && decide (floatToIntVal .f64 (floatOfInt .f64 (n : Int)) .i64 = some (n : Int))
def chk : Nat → Nat → Bool
  | 0, b => ok b
  | k + 1, b => chk k b && chk k (b + 2 ^ k)

theorem chk_all (k : Nat) : ∀ b, chk k b = true → ∀ n, b ≤ n → n < b + 2 ^ k → ok n = true := by
  induction k with
  | zero =>
    intro b h n h1 h2
    obtain rfl : n = b := by simp at h2; omega
    exact h
  | succ k ih =>
    intro b h n h1 h2
    simp only [chk, Bool.and_eq_true] at h
    by_cases h3 : n < b + 2 ^ k
    · exact ih b h.1 n h1 h3
    · exact ih _ h.2 n (by omega) (by rw [Nat.pow_succ] at h2; omega)

theorem chk0 : chk 9 0 = true := by decide +kernel
theorem chk1 : chk 9 512 = true := by decide +kernel
theorem chk2 : chk 9 1024 = true := by decide +kernel
theorem chk3 : chk 9 1536 = true := by decide +kernel
theorem ok_small (n : Nat) (h : n < 2048) : ok n = true := by
  rcases Nat.lt_or_ge n 512 with h1 | h1
  · exact chk_all 9 0 chk0 n (by omega) (by omega)
  rcases Nat.lt_or_ge n 1024 with h2 | h2
  · exact chk_all 9 512 chk1 n (by omega) (by omega)
  rcases Nat.lt_or_ge n 1536 with h3 | h3
  · exact chk_all 9 1024 chk2 n (by omega) (by omega)
  · exact chk_all 9 1536 chk3 n (by omega) (by omega)
theorem decode_small (n : Nat) (h : n < 2048) : FloatKind.f64.decode (floatOfInt .f64 (n : Int)) = dat n := by
  have := ok_small n h
  simp only [ok, Bool.and_eq_true, decide_eq_true_eq] at this
  exact this.1
theorem toInt_small (n : Nat) (h : n < 2048) : floatToIntVal .f64 (floatOfInt .f64 (n : Int)) .i64 = some (n : Int) := by
  have := ok_small n h
  simp only [ok, Bool.and_eq_true, decide_eq_true_eq] at this
  exact this.2
theorem float0 : floatOfInt .f64 ((0 : Nat) : Int) = 0 := by decide +kernel
theorem float258 : floatOfInt .f64 ((258 : Nat) : Int) = 4643246400191070208 := by decide +kernel
end Mx
end Go.Proofs.Ytclamfdmgflofaa
