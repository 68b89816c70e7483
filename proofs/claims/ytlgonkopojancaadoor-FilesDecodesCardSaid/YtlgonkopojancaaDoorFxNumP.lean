/- A number is taken: the plain law. -/
import Derived.Test.YtlgonkopojancaaDoorFxTake
namespace Go.Proofs.YtlgonkopojancaaDoor
open Go.RowKit

/-- a number at the head, seven bits a byte; sh bits are read already -/
def numP (sh acc : Nat) : List Int → Option (Nat × List Int)
  | [] => none
  | c :: xs =>
    if ¬ (sh < 63 ∨ c < 2) then none
    else if 128 ≤ c then numP (sh + 7) (acc + (c % 128).toNat * 2 ^ sh) xs
    else if 0 < c ∨ sh = 0 then some (acc + (c % 128).toNat * 2 ^ sh, xs)
    else none

theorem numP_spec : ∀ (xs : List Int) (sh acc : Nat), Bts xs → acc < 2 ^ sh → sh ≤ 63 → sh % 7 = 0 → ∀ n r, numP sh acc xs = some (n, r) ↔ ∃ m, n = acc + m * 2 ^ sh ∧ n < 2 ^ 64 ∧ (sh = 0 ∨ 0 < m) ∧ xs = numb m ++ r
  | [], sh, acc, _, _, _, _, n, r => by
    constructor
    · intro h; simp [numP] at h
    · rintro ⟨m, _, _, _, h⟩
      have := numb_pos m
      have := congrArg List.length h
      simp at this
      omega
  | c :: xs, sh, acc, hb, ha, hs, h7, n, r => by
    have hc := hb c (by simp)
    have hbx : Bts xs := fun x hx => hb x (by simp [hx])
    have hp : 0 < 2 ^ sh := Nat.two_pow_pos sh
    have hsh : sh < 63 ∨ sh = 63 := by omega
    rw [numP]
    by_cases h1 : ¬ (sh < 63 ∨ c < 2)
    · rw [if_pos h1]
      constructor
      · intro h; cases h
      · rintro ⟨m, hn, hlt, _, hx⟩
        exfalso
        have hsh : sh = 63 := by omega
        subst hsh
        have hm : m < 2 := by
          rcases Nat.lt_or_ge m 2 with h | h
          · exact h
          · have : 2 * 2 ^ 63 ≤ m * 2 ^ 63 := Nat.mul_le_mul_right _ h
            omega
        rw [numb_small (by omega)] at hx
        have : c = (m : Int) := by injection hx
        omega
    · rw [if_neg h1]
      by_cases h2 : 128 ≤ c
      · rw [if_pos h2]
        have hlt63 : sh < 63 := by omega
        have e7 : 2 ^ (sh + 7) = 2 ^ sh * 128 := by rw [Nat.pow_add]
        have hacc : acc + (c % 128).toNat * 2 ^ sh < 2 ^ (sh + 7) := by
          rw [e7]
          have h3 : (c % 128).toNat ≤ 127 := by omega
          have := Nat.mul_le_mul_right (2 ^ sh) h3
          omega
        rw [numP_spec xs (sh + 7) _ hbx hacc (by omega) (by omega) n r]
        constructor
        · rintro ⟨m, hn, hlt, hm, rfl⟩
          have hm0 : 0 < m := by omega
          refine ⟨(c % 128).toNat + 128 * m, ?_, hlt, .inr (by omega), ?_⟩
          · rw [hn, e7, Nat.add_mul, Nat.add_assoc]
            congr 2
            rw [Nat.mul_comm (2 ^ sh) 128, ← Nat.mul_assoc, Nat.mul_comm m 128]
          · have e1 : ((c % 128).toNat + 128 * m) / 128 = m := by omega
            rw [numb_big (n := (c % 128).toNat + 128 * m) (by omega), e1, List.cons_append]
            congr 1
            omega
        · rintro ⟨m, hn, hlt, hm, hx⟩
          by_cases hm8 : m < 128
          · rw [numb_small hm8] at hx
            have : c = (m : Int) := by injection hx
            omega
          · rw [numb_big hm8] at hx
            simp only [List.cons_append, List.cons.injEq] at hx
            obtain ⟨hx1, rfl⟩ := hx
            refine ⟨m / 128, ?_, hlt, .inr (by omega), rfl⟩
            have hcm : (c % 128).toNat = m % 128 := by omega
            rw [hn, hcm, e7, Nat.add_assoc]
            congr 1
            have : m = m % 128 + 128 * (m / 128) := by omega
            conv => lhs; rw [this]
            rw [Nat.add_mul]
            congr 1
            rw [Nat.mul_comm (2 ^ sh) 128, ← Nat.mul_assoc, Nat.mul_comm (m / 128) 128]
      · rw [if_neg h2]
        have hcn : c % 128 = c := by omega
        rw [hcn]
        by_cases h3 : 0 < c ∨ sh = 0
        · rw [if_pos h3]
          constructor
          · intro h
            injection h with h
            injection h with ha' hr
            subst hr
            refine ⟨c.toNat, ha'.symm, ?_, by omega, ?_⟩
            · rw [← ha']
              rcases hsh with h | h
              · have h4 : c.toNat ≤ 127 := by omega
                have := Nat.mul_le_mul_right (2 ^ sh) h4
                have h5 : 2 ^ sh ≤ 2 ^ 56 := Nat.pow_le_pow_right (by decide) (by omega)
                omega
              · subst h
                have h4 : c.toNat ≤ 1 := by omega
                have := Nat.mul_le_mul_right (2 ^ 63) h4
                omega
            · rw [numb_small (by omega)]
              simp
              omega
          · rintro ⟨m, hn, hlt, hm, hx⟩
            by_cases hm8 : m < 128
            · rw [numb_small hm8] at hx
              simp only [List.cons_append, List.nil_append, List.cons.injEq] at hx
              obtain ⟨hx1, rfl⟩ := hx
              rw [hn, hx1]
              rfl
            · rw [numb_big hm8] at hx
              have : c = ((m % 128 + 128 : Nat) : Int) := by injection hx
              omega
        · rw [if_neg h3]
          constructor
          · intro h; cases h
          · rintro ⟨m, hn, hlt, hm, hx⟩
            by_cases hm8 : m < 128
            · rw [numb_small hm8] at hx
              have : c = (m : Int) := by injection hx
              omega
            · rw [numb_big hm8] at hx
              have : c = ((m % 128 + 128 : Nat) : Int) := by injection hx
              omega
/-- the number at the head -/
def getN (xs : List Int) : Option (Nat × List Int) := numP 0 0 xs
theorem getN_spec {xs : List Int} (hb : Bts xs) (n : Nat) (r : List Int) : getN xs = some (n, r) ↔ n < 2 ^ 64 ∧ xs = numb n ++ r := by
  unfold getN
  rw [numP_spec xs 0 0 hb (by decide) (by decide) rfl]
  constructor
  · rintro ⟨m, hn, hlt, _, hx⟩
    have : n = m := by omega
    subst this
    exact ⟨hlt, hx⟩
  · rintro ⟨hlt, hx⟩
    exact ⟨n, by omega, hlt, .inl rfl, hx⟩
end Go.Proofs.YtlgonkopojancaaDoor
