/- Matches as plain numbers and lists. No program. -/
namespace Go.Proofs.Ytclamfdmgflofaa
namespace Mx

/-- how long the match of two places is, from n on, at most f more -/
def lngUp (b : List Int) (i j : Nat) : Nat → Nat → Nat
  | 0, n => n
  | f + 1, n => if i + n < b.length ∧ b.getD (i + n) 0 = b.getD (j + n) 0 then lngUp b i j f (n + 1) else n
def lng (b : List Int) (i j : Nat) : Nat := lngUp b i j 258 0

theorem lngUp_le (b : List Int) (i j : Nat) : ∀ f n, lngUp b i j f n ≤ n + f ∧ n ≤ lngUp b i j f n ∧ (i + n ≤ b.length → i + lngUp b i j f n ≤ b.length) ∧ (∀ k, n ≤ k → k < lngUp b i j f n → b.getD (i + k) 0 = b.getD (j + k) 0)
  | 0, n => ⟨by simp [lngUp], by simp [lngUp], by simp [lngUp], fun k h1 h2 => by simp [lngUp] at h2; omega⟩
  | f + 1, n => by
    unfold lngUp
    split
    · rename_i h
      obtain ⟨h1, h2, h3, h4⟩ := lngUp_le b i j f (n + 1)
      refine ⟨by omega, by omega, fun _ => h3 (by omega), fun k hk1 hk2 => ?_⟩
      by_cases e : k = n
      · subst e; exact h.2
      · exact h4 k (by omega) hk2
    · exact ⟨by omega, by omega, fun h => h, fun k h1 h2 => by omega⟩
/-- whatever matches for m places is no longer than that -/
theorem lngUp_ge (b : List Int) (i j m : Nat) : ∀ f n, n ≤ m → m ≤ n + f → i + m ≤ b.length → (∀ k, n ≤ k → k < m → b.getD (i + k) 0 = b.getD (j + k) 0) → m ≤ lngUp b i j f n
  | 0, n, h1, h2, _, _ => by simp [lngUp]; omega
  | f + 1, n, h1, h2, h3, h4 => by
    unfold lngUp
    by_cases e : n = m
    · subst e
      split
      · rename_i h
        have := (lngUp_le b i j f (n + 1)).2.1
        omega
      · exact Nat.le_refl _
    · rw [if_pos ⟨by omega, h4 n (Nat.le_refl _) (by omega)⟩]
      exact lngUp_ge b i j m f (n + 1) (by omega) (by omega) h3 (fun k hk1 hk2 => h4 k (by omega) hk2)
theorem lng_le (b : List Int) (i j : Nat) : lng b i j ≤ 258 := by have := (lngUp_le b i j 258 0).1; unfold lng; omega
theorem lng_len (b : List Int) (i j : Nat) (h : i ≤ b.length) : i + lng b i j ≤ b.length := (lngUp_le b i j 258 0).2.2.1 (by omega)
theorem lng_same (b : List Int) (i j k : Nat) (h : k < lng b i j) : b.getD (i + k) 0 = b.getD (j + k) 0 := (lngUp_le b i j 258 0).2.2.2 k (Nat.zero_le _) h
theorem lng_ge (b : List Int) (i j m : Nat) (h258 : m ≤ 258) (hl : i + m ≤ b.length) (h : ∀ k, k < m → b.getD (i + k) 0 = b.getD (j + k) 0) : m ≤ lng b i j :=
  lngUp_ge b i j m 258 0 (Nat.zero_le _) (by omega) hl (fun k _ hk => h k hk)

/-- the longest match at i from at most k back, the nearest of these: its length and how far -/
def bestUp (b : List Int) (i : Nat) : Nat → Nat × Nat
  | 0 => (0, 0)
  | k + 1 => if (bestUp b i k).1 < lng b i (i - (k + 1)) then (lng b i (i - (k + 1)), k + 1) else bestUp b i k
/-- the match at i, or none -/
def best (b : List Int) (i : Nat) : Nat × Nat := if (bestUp b i i).1 < 4 then (0, 0) else bestUp b i i

/-- the same, but for matches of fewer than four -/
def best4 (b : List Int) (i : Nat) : Nat → Nat × Nat
  | 0 => (0, 0)
  | k + 1 => if (best4 b i k).1 < lng b i (i - (k + 1)) ∧ 4 ≤ lng b i (i - (k + 1)) then (lng b i (i - (k + 1)), k + 1) else best4 b i k
theorem best4_is (b : List Int) (i : Nat) : ∀ k, best4 b i k = if (bestUp b i k).1 < 4 then (0, 0) else bestUp b i k
  | 0 => by simp [best4, bestUp]
  | k + 1 => by
    unfold best4 bestUp
    rw [best4_is b i k]
    generalize lng b i (i - (k + 1)) = n
    generalize bestUp b i k = r
    by_cases h1 : r.1 < 4 <;> by_cases h2 : r.1 < n <;> by_cases h3 : 4 ≤ n
    all_goals simp only [h1, h2, h3, if_true, if_false, and_true, and_false]
    all_goals first
      | rfl
      | (exfalso; omega)
      | (rw [if_neg (show ¬ (n, k + 1).1 < 4 from Nat.not_lt.2 h3), if_pos (show 0 < n by omega)]; done)
      | (rw [if_neg (show ¬ (n, k + 1).1 < 4 from Nat.not_lt.2 h3)]; done)
      | (rw [if_pos (show (n, k + 1).1 < 4 from Nat.not_le.1 h3)]; done)
theorem best_is (b : List Int) (i : Nat) : best b i = best4 b i i := (best4_is b i i).symm

theorem best4_spec (b : List Int) (i : Nat) : ∀ k, (best4 b i k = (0, 0)) ∨ (4 ≤ (best4 b i k).1 ∧ 1 ≤ (best4 b i k).2 ∧ (best4 b i k).2 ≤ k ∧ (best4 b i k).1 = lng b i (i - (best4 b i k).2))
  | 0 => .inl rfl
  | k + 1 => by
    unfold best4
    split
    · rename_i h
      exact .inr ⟨h.2, by simp, by simp, rfl⟩
    · rcases best4_spec b i k with h | ⟨h1, h2, h3, h4⟩
      · exact .inl h
      · exact .inr ⟨h1, h2, by omega, h4⟩
theorem best4_max (b : List Int) (i : Nat) : ∀ k j, 1 ≤ j → j ≤ k → 4 ≤ lng b i (i - j) → lng b i (i - j) ≤ (best4 b i k).1
  | 0, j, h1, h2, _ => by omega
  | k + 1, j, h1, h2, h4 => by
    unfold best4
    by_cases e : j = k + 1
    · subst e
      split
      · exact Nat.le_refl _
      · rename_i h
        simp only [not_and, Nat.not_le] at h
        rcases Nat.lt_or_ge (best4 b i k).1 (lng b i (i - (k + 1))) with hh | hh
        · have := h hh; omega
        · exact hh
    · have := best4_max b i k j h1 (by omega) h4
      split
      · rename_i h; omega
      · exact this

/-- a token: its byte, length and distance -/
abbrev Tok := Int × Int × Int
/-- the token at i, and where the next one is -/
def tokAt (b : List Int) (i : Nat) : Tok := if (best b i).1 = 0 then (b.getD i 0, 0, 0) else (0, (best b i).1, (best b i).2)
def step (b : List Int) (i : Nat) : Nat := max (best b i).1 1
/-- the tokens from i on, at most f of them -/
def toks (b : List Int) : Nat → Nat → List Tok
  | 0, _ => []
  | f + 1, i => if i < b.length then tokAt b i :: toks b f (i + step b i) else []
def find (b : List Int) : List Tok := toks b b.length 0
theorem step_pos (b : List Int) (i : Nat) : 1 ≤ step b i := by unfold step; omega
theorem toks_len (b : List Int) : ∀ f i, (toks b f i).length ≤ b.length - i
  | 0, i => by simp [toks]
  | f + 1, i => by
    unfold toks
    split
    · have h1 := toks_len b f (i + step b i)
      have h2 := step_pos b i
      rw [List.length_cons]; omega
    · simp
theorem find_len (b : List Int) : (find b).length ≤ b.length := toks_len b b.length 0
end Mx
end Go.Proofs.Ytclamfdmgflofaa
