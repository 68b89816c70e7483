/- What tokens stand for, as plain lists. No program. -/
import Derived.Test.YtclamfdmgflofaaMxCheck
namespace Go.Proofs.Ytclamfdmgflofaa
namespace Mx

/-- n bytes from far back, one by one -/
def cpy (far : Nat) : Nat → List Int → List Int
  | 0, all => all
  | n + 1, all => cpy far n (all ++ [all.getD (all.length - far) 0])
theorem length_cpy (far : Nat) : ∀ n all, (cpy far n all).length = all.length + n
  | 0, _ => rfl
  | n + 1, all => by rw [cpy, length_cpy far n]; simp; omega
/-- one more at the end -/
theorem cpy_succ (far : Nat) : ∀ n all, cpy far (n + 1) all = cpy far n all ++ [(cpy far n all).getD ((cpy far n all).length - far) 0]
  | 0, _ => rfl
  | n + 1, all => by rw [cpy, cpy_succ far n]; rfl
/-- the bytes behind a token -/
def put (t : Tok) (all : List Int) : List Int := if t.2.1 = 0 then all ++ [t.1] else cpy t.2.2.toNat t.2.1.toNat all
/-- what Expand answers once all ahead is laid: h bytes stand ahead, at most `most` may come out -/
def ex (h : Nat) (most : Int) : List Tok → List Int → List Int × Int
  | [], all => (all.drop h, 0)
  | t :: ts, all => if ck t ≠ 0 ∨ (all.length : Int) < t.2.2 then ([], 140) else if most < ((put t all).length : Int) - h then ([], 151) else ex h most ts (put t all)
/-- what Expand answers -/
def expand (ahead : List Int) (ts : List Tok) (most : Int) : List Int × Int := if most < 0 then ([], 1) else ex ahead.length most ts ahead
theorem ck_cases (t : Tok) : ck t = 0 ∨ ck t = 140 := by unfold ck; split <;> simp
theorem ck_good {t : Tok} (h : ck t = 0) : (t.2.1 = 0 ∧ t.2.2 = 0) ∨ (t.1 = 0 ∧ 4 ≤ t.2.1 ∧ t.2.1 ≤ 258 ∧ 1 ≤ t.2.2 ∧ t.2.2 ≤ 65535) := by
  unfold ck at h
  split at h
  · assumption
  · omega
theorem put_len {t : Tok} (h : ck t = 0) (all : List Int) : all.length + 1 ≤ (put t all).length ∧ (put t all).length ≤ all.length + 258 := by
  unfold put
  rcases ck_good h with h | h
  · rw [if_pos h.1]; simp
  · rw [if_neg (by omega), length_cpy]; omega
end Mx
end Go.Proofs.Ytclamfdmgflofaa
