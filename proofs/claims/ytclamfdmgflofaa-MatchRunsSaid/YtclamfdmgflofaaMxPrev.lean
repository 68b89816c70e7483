/- The place ahead of a place that has the same four bytes. No program. -/
import Derived.Test.YtclamfdmgflofaaMxPure
namespace Go.Proofs.Ytclamfdmgflofaa
namespace Mx

/-- the four bytes at two places are the same -/
def eq4 (b : List Int) (p q : Nat) : Prop := ∀ k, k < 4 → b.getD (p + k) 0 = b.getD (q + k) 0
instance (b : List Int) (p q : Nat) : Decidable (eq4 b p q) := inferInstanceAs (Decidable (∀ k, k < 4 → _))
theorem eq4_symm {b : List Int} {p q : Nat} (h : eq4 b p q) : eq4 b q p := fun k hk => (h k hk).symm
theorem eq4_trans {b : List Int} {p q r : Nat} (h : eq4 b p q) (g : eq4 b q r) : eq4 b p r := fun k hk => (h k hk).trans (g k hk)
/-- the last place ahead of i that has the same four bytes as a; or -1 -/
def prev (b : List Int) (a : Nat) : Nat → Int
  | 0 => -1
  | i + 1 => if i + 4 ≤ b.length ∧ eq4 b i a then (i : Int) else prev b a i
theorem prev_lt (b : List Int) (a : Nat) : ∀ i, -1 ≤ prev b a i ∧ prev b a i < i
  | 0 => by simp [prev]
  | i + 1 => by
    unfold prev
    split
    · omega
    · have := prev_lt b a i; omega
theorem prev_hit (b : List Int) (a : Nat) : ∀ i p : Nat, prev b a i = (p : Int) → p < i ∧ p + 4 ≤ b.length ∧ eq4 b p a
  | 0, p, h => by simp [prev] at h <;> omega
  | i + 1, p, h => by
    unfold prev at h
    split at h
    · rename_i hh
      obtain rfl : i = p := by omega
      exact ⟨by omega, hh.1, hh.2⟩
    · have := prev_hit b a i p h
      exact ⟨by omega, this.2⟩
theorem prev_none (b : List Int) (a : Nat) : ∀ i j : Nat, prev b a i < (j : Int) → j < i → j + 4 ≤ b.length → ¬ eq4 b j a
  | 0, j, _, h, _ => by omega
  | i + 1, j, h, h1, h2 => by
    unfold prev at h
    split at h
    · omega
    · rename_i hh
      by_cases e : j = i
      · subst e
        exact fun hq => hh ⟨h2, hq⟩
      · exact prev_none b a i j h (by omega) h2
theorem prev_same {b : List Int} {a c : Nat} (h : eq4 b a c) : ∀ i, prev b a i = prev b c i
  | 0 => rfl
  | i + 1 => by
    unfold prev
    rw [prev_same h i]
    by_cases h1 : i + 4 ≤ b.length ∧ eq4 b i a
    · rw [if_pos h1, if_pos ⟨h1.1, eq4_trans h1.2 h⟩]
    · rw [if_neg h1, if_neg (fun g => h1 ⟨g.1, eq4_trans g.2 (eq4_symm h)⟩)]

theorem eq4_of_lng {b : List Int} {i j : Nat} (h : 4 ≤ lng b i j) : eq4 b j i := fun k hk => (lng_same b i j k (by omega)).symm
theorem lng_of_eq4 {b : List Int} {i j : Nat} (h : eq4 b j i) (hl : i + 4 ≤ b.length) : 4 ≤ lng b i j := lng_ge b i j 4 (by omega) hl (fun k hk => (h k hk).symm)

theorem best4_skip (b : List Int) (i k : Nat) : ∀ m, k ≤ m → (∀ j, k < j → j ≤ m → ¬ 4 ≤ lng b i (i - j)) → best4 b i m = best4 b i k
  | 0, h, _ => by obtain rfl : k = 0 := by omega
                  rfl
  | m + 1, h, hn => by
    by_cases e : k = m + 1
    · rw [e]
    · rw [best4, if_neg (fun g => hn (m + 1) (by omega) (Nat.le_refl _) g.2)]
      exact best4_skip b i k m (by omega) (fun j h1 h2 => hn j h1 (by omega))
theorem best4_le (b : List Int) (i : Nat) : ∀ k, (best4 b i k).1 ≤ 258 ∧ (best4 b i k).2 ≤ k
  | 0 => by simp [best4]
  | k + 1 => by
    unfold best4
    split
    · exact ⟨lng_le b i _, Nat.le_refl _⟩
    · have := best4_le b i k; omega
theorem best4_full (b : List Int) (i k : Nat) (h : (best4 b i k).1 = 258) : ∀ m, k ≤ m → best4 b i m = best4 b i k
  | 0, h1 => by obtain rfl : k = 0 := by omega
                rfl
  | m + 1, h1 => by
    by_cases e : k = m + 1
    · rw [e]
    · have ih := best4_full b i k h m (by omega)
      rw [best4, ih, if_neg (fun g => by have := lng_le b i (i - (m + 1)); omega)]

/-- at a place with the same four bytes: what the search holds behind it -/
theorem best4_hit (b : List Int) (i k : Nat) (hl : i + 4 ≤ b.length) (he : eq4 b (i - (k + 1)) i) : best4 b i (k + 1) = if (best4 b i k).1 < lng b i (i - (k + 1)) then (lng b i (i - (k + 1)), k + 1) else best4 b i k := by
  have h4 := lng_of_eq4 he hl
  rw [best4]
  by_cases h : (best4 b i k).1 < lng b i (i - (k + 1))
  · rw [if_pos ⟨h, h4⟩, if_pos h]
  · rw [if_neg (fun g => h g.1), if_neg h]
/-- from a place to the next one ahead of it with the same bytes nothing is found -/
theorem best4_next (b : List Int) (i k p : Nat) (hp : p + k = i) (k' : Nat) (h : prev b i p = (i : Int) - 1 - (k' : Int)) (hl : i ≤ b.length) : best4 b i k' = best4 b i k := by
  have h1 := prev_lt b i p
  refine best4_skip b i k k' (by omega) (fun j j1 j2 h4 => ?_)
  have he := eq4_of_lng h4
  have : i + 4 ≤ b.length := by have := lng_len b i (i - j) hl; omega
  exact prev_none b i p (i - j) (by omega) (by omega) (by omega) he
end Mx
end Go.Proofs.Ytclamfdmgflofaa
