/- How small whole numbers compare as float64. -/
import Derived.Test.YtclamfdmgflofaaMxFloat
namespace Go.Proofs.Ytclamfdmgflofaa
namespace Mx

theorem log_small {n : Nat} (h : n < 2048) : n.log2 ≤ 10 := by
  rcases Nat.eq_zero_or_pos n with rfl | h0
  · decide
  · have := (Nat.log2_lt (by omega)).2 (show n < 2 ^ 11 from h)
    omega

theorem order_dat (a b : Nat) (ha : a < 2048) (hb : b < 2048) : (dat a).order (dat b) = some (compare a b) := by
  have la := log_small ha
  have lb := log_small hb
  unfold dat
  have shl : ∀ x p q : Nat, x <<< p <<< q = x * 2 ^ (p + q) := fun x p q => by rw [← Nat.shiftLeft_add, Nat.shiftLeft_eq]
  have cmp : ∀ x y : Int, compare x y = if x < y then .lt else if x = y then .eq else .gt := fun x y => rfl
  have cmpN : ∀ x y : Nat, compare x y = if x < y then .lt else if x = y then .eq else .gt := fun x y => rfl
  by_cases a0 : a = 0 <;> by_cases b0 : b = 0
  · subst a0; subst b0; rfl
  · subst a0
    rw [if_pos rfl, if_neg b0]
    simp only [Ieee.Datum.order, Ieee.signed, Bool.false_eq_true, if_false, shl]
    rw [cmp, cmpN]
    have : 0 < b * 2 ^ (52 - b.log2 + ((b.log2 : Int) - 52 - min (-1074) ((b.log2 : Int) - 52)).toNat) := Nat.mul_pos (by omega) (Nat.pow_pos (by decide))
    rw [if_pos (by rw [Nat.zero_shiftLeft]; omega), if_pos (by omega)]
  · subst b0
    rw [if_neg a0, if_pos rfl]
    simp only [Ieee.Datum.order, Ieee.signed, Bool.false_eq_true, if_false, shl]
    rw [cmp, cmpN]
    have : 0 < a * 2 ^ (52 - a.log2 + ((a.log2 : Int) - 52 - min ((a.log2 : Int) - 52) (-1074)).toNat) := Nat.mul_pos (by omega) (Nat.pow_pos (by decide))
    rw [if_neg (by rw [Nat.zero_shiftLeft]; omega), if_neg (by rw [Nat.zero_shiftLeft]; omega), if_neg (by omega), if_neg (by omega)]
  · rw [if_neg a0, if_neg b0]
    simp only [Ieee.Datum.order, Ieee.signed, Bool.false_eq_true, if_false, shl]
    have e1 : 52 - a.log2 + ((a.log2 : Int) - 52 - min ((a.log2 : Int) - 52) ((b.log2 : Int) - 52)).toNat = 52 - min a.log2 b.log2 := by omega
    have e2 : 52 - b.log2 + ((b.log2 : Int) - 52 - min ((a.log2 : Int) - 52) ((b.log2 : Int) - 52)).toNat = 52 - min a.log2 b.log2 := by omega
    rw [e1, e2, cmp, cmpN]
    have hp : 0 < 2 ^ (52 - min a.log2 b.log2) := Nat.pow_pos (by decide)
    generalize 2 ^ (52 - min a.log2 b.log2) = p at *
    have lt : ((a * p : Nat) : Int) < ((b * p : Nat) : Int) ↔ a < b := by
      rw [Int.ofNat_lt]; exact Nat.mul_lt_mul_right hp
    have eq : ((a * p : Nat) : Int) = ((b * p : Nat) : Int) ↔ a = b := by
      rw [Int.ofNat_inj]; exact Nat.mul_left_inj (by omega)
    simp only [lt, eq]

theorem order_small (a b : Nat) (ha : a < 2048) (hb : b < 2048) : FloatKind.f64.format.order (floatOfInt .f64 (a : Int)) (floatOfInt .f64 (b : Int)) = some (compare a b) := by
  have h1 := decode_small a ha
  have h2 := decode_small b hb
  unfold Ieee.Format.order
  show (FloatKind.f64.decode (floatOfInt .f64 (a : Int))).order (FloatKind.f64.decode (floatOfInt .f64 (b : Int))) = _
  rw [h1, h2]
  exact order_dat a b ha hb
theorem gt_small (a b : Nat) (ha : a < 2048) (hb : b < 2048) : (FloatKind.f64.format.order (floatOfInt .f64 (a : Int)) (floatOfInt .f64 (b : Int)) == some .gt) = decide (b < a) := by
  rw [order_small a b ha hb]
  show (some (if a < b then Ordering.lt else if a = b then .eq else .gt) == some .gt) = _
  rcases Nat.lt_trichotomy a b with h | h | h
  · rw [if_pos h]; simp; omega
  · rw [if_neg (by omega), if_pos h]; simp; omega
  · rw [if_neg (by omega), if_neg (by omega)]; simp; omega
theorem eq_258 (a : Nat) (ha : a < 2048) : (FloatKind.f64.format.order (floatOfInt .f64 (a : Int)) 4643246400191070208 == some .eq) = decide (a = 258) := by
  rw [← float258, order_small a 258 ha (by decide)]
  show (some (if a < 258 then Ordering.lt else if a = 258 then .eq else .gt) == some .eq) = _
  rcases Nat.lt_trichotomy a 258 with h | h | h
  · rw [if_pos h]; simp; omega
  · rw [if_neg (by omega), if_pos h]; simp; omega
  · rw [if_neg (by omega), if_neg (by omega)]; simp; omega
end Mx
end Go.Proofs.Ytclamfdmgflofaa
