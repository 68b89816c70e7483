/- Buckets as plain numbers and lists. No program. -/
namespace Go.Proofs.YtobepippjhmeaaaDoor
namespace Bk

/-- a quarter of the bucket's power -/
def qOf (n : Nat) : Nat :=
  if n ≤ 2048 then 256 else if n ≤ 4096 then 512 else if n ≤ 8192 then 1024 else if n ≤ 16384 then 2048 else if n ≤ 32768 then 4096 else if n ≤ 65536 then 8192
  else if n ≤ 131072 then 16384 else if n ≤ 262144 then 32768 else if n ≤ 524288 then 65536 else if n ≤ 1048576 then 131072 else if n ≤ 2097152 then 262144 else 524288
/-- the bucket of n, where there is one -/
def size (n : Nat) : Nat := max ((n + qOf n - 1) / qOf n) 4 * qOf n
/-- what Size answers -/
def sv (n : Int) : Int := if 0 ≤ n ∧ n ≤ 4194304 then size n.toNat else 0
def se (n : Int) : Int := if 0 ≤ n ∧ n ≤ 4194304 then 0 else 1

theorem lt12 {j : Nat} (h : j < 12) : j = 0 ∨ j = 1 ∨ j = 2 ∨ j = 3 ∨ j = 4 ∨ j = 5 ∨ j = 6 ∨ j = 7 ∨ j = 8 ∨ j = 9 ∨ j = 10 ∨ j = 11 := by omega
theorem lt13 {j : Nat} (h : j < 13) : j < 12 ∨ j = 12 := by omega

theorem pow_big {j : Nat} (h : 12 ≤ j) : 1048576 ≤ 256 * 2 ^ j := by
  obtain ⟨k, rfl⟩ := Nat.exists_eq_add_of_le h
  rw [Nat.pow_add]
  have : 0 < 2 ^ k := Nat.pow_pos (by decide)
  omega

theorem qOf_cases (n : Nat) (hn : n ≤ 4194304) : ∃ j, j < 12 ∧ qOf n = 256 * 2 ^ j ∧ n ≤ 8 * qOf n ∧ (j = 0 ∨ 4 * qOf n < n) := by
  unfold qOf
  repeat' split
  · exact ⟨0, by omega⟩
  · exact ⟨1, by omega⟩
  · exact ⟨2, by omega⟩
  · exact ⟨3, by omega⟩
  · exact ⟨4, by omega⟩
  · exact ⟨5, by omega⟩
  · exact ⟨6, by omega⟩
  · exact ⟨7, by omega⟩
  · exact ⟨8, by omega⟩
  · exact ⟨9, by omega⟩
  · exact ⟨10, by omega⟩
  · exact ⟨11, by omega⟩

theorem qOf_of {n q : Nat} (j : Nat) (hq : q = 256 * 2 ^ j) (h1 : n ≤ 8 * q) (h2 : j = 0 ∨ 4 * q < n) (hn : n ≤ 4194304) : qOf n = q := by
  obtain ⟨i, _, e, h3, h4⟩ := qOf_cases n hn
  rw [e] at h3 h4 ⊢
  subst hq
  have up : ∀ a b : Nat, a < b → 2 * (256 * 2 ^ a) ≤ 256 * 2 ^ b := fun a b h => by
    have := Nat.pow_le_pow_right (show 0 < 2 by decide) (show a + 1 ≤ b from h)
    rw [Nat.pow_succ] at this
    omega
  rcases Nat.lt_trichotomy i j with h | h | h
  · have := up i j h; omega
  · rw [h]
  · have := up j i h; omega

/-- n's bucket is c quarters, the least such -/
theorem size_spec (n : Nat) (hn : n ≤ 4194304) : ∃ j c, j < 12 ∧ 4 ≤ c ∧ c ≤ 8 ∧ size n = c * (256 * 2 ^ j) ∧ n ≤ c * (256 * 2 ^ j) ∧ (c = 4 ∨ (c - 1) * (256 * 2 ^ j) < n) ∧ (j = 0 ∨ 4 * (256 * 2 ^ j) < n) := by
  obtain ⟨j, hj, hq, h1, h2⟩ := qOf_cases n hn
  unfold size
  rw [hq] at h1 h2 ⊢
  refine ⟨j, max ((n + 256 * 2 ^ j - 1) / (256 * 2 ^ j)) 4, hj, Nat.le_max_right _ _, ?_, rfl, ?_, ?_, h2⟩ <;>
  have hp : 0 < 256 * 2 ^ j := by have : 0 < 2 ^ j := Nat.pow_pos (by decide); omega
  all_goals generalize 256 * 2 ^ j = q at *
  all_goals
    have e1 : (n + q - 1) / q < 9 := (Nat.div_lt_iff_lt_mul hp).2 (by omega)
    have e2 := Nat.div_add_mod (n + q - 1) q
    have e3 := Nat.mod_lt (n + q - 1) hp
  · omega
  · rcases Nat.lt_or_ge ((n + q - 1) / q) 4 with h | h
    · rw [Nat.max_eq_right (by omega)]
      have : q * ((n + q - 1) / q) ≤ q * 3 := Nat.mul_le_mul_left _ (by omega)
      omega
    · rw [Nat.max_eq_left h, Nat.mul_comm]
      omega
  · rcases Nat.lt_or_ge ((n + q - 1) / q) 5 with h | h
    · exact .inl (by omega)
    · refine .inr ?_
      have e4 := Nat.mul_comm ((n + q - 1) / q) q
      rw [Nat.max_eq_left (by omega), Nat.sub_mul]
      generalize (n + q - 1) / q = d at *
      generalize (n + q - 1) % q = r at *
      have e5 : q * 5 ≤ q * d := Nat.mul_le_mul_left _ h
      rw [e4]
      omega

/-- the other way round -/
theorem size_of {n : Nat} (j c : Nat) (_ : j < 12) (h4 : 4 ≤ c) (h8 : c ≤ 8) (h1 : n ≤ c * (256 * 2 ^ j)) (h2 : c = 4 ∨ (c - 1) * (256 * 2 ^ j) < n) (h3 : j = 0 ∨ 4 * (256 * 2 ^ j) < n) (hn : n ≤ 4194304) : size n = c * (256 * 2 ^ j) := by
  have hp : 0 < 256 * 2 ^ j := by have : 0 < 2 ^ j := Nat.pow_pos (by decide); omega
  have hq : qOf n = 256 * 2 ^ j := qOf_of j rfl (Nat.le_trans h1 (Nat.mul_le_mul_right _ h8)) h3 hn
  unfold size
  rw [hq]
  generalize 256 * 2 ^ j = q at *
  congr 1
  rcases h2 with rfl | h2
  · have : (n + q - 1) / q < 5 := (Nat.div_lt_iff_lt_mul hp).2 (by omega)
    omega
  · have e1 : (n + q - 1) / q < c + 1 := (Nat.div_lt_iff_lt_mul hp).2 (by rw [Nat.add_mul]; omega)
    have e2 : c ≤ (n + q - 1) / q := (Nat.le_div_iff_mul_le hp).2 (by rw [Nat.sub_mul] at h2; omega)
    omega

theorem size_dvd (n : Nat) (hn : n ≤ 4194304) : size n % 256 = 0 := by
  obtain ⟨j, c, _, _, _, e, _⟩ := size_spec n hn
  rw [e, Nat.mul_left_comm]
  omega
theorem size_ge (n : Nat) (hn : n ≤ 4194304) : n ≤ size n := by
  obtain ⟨j, c, _, _, _, e, h, _⟩ := size_spec n hn
  rw [e]; exact h
theorem size_le (n : Nat) (hn : n ≤ 4194304) : size n ≤ 4194304 := by
  obtain ⟨j, c, hj, _, h8, e, _, _, _⟩ := size_spec n hn
  rw [e]
  have h1 : 256 * 2 ^ j ≤ 256 * 2 ^ 11 := Nat.mul_le_mul_left _ (Nat.pow_le_pow_right (by decide) (by omega))
  exact Nat.le_trans (Nat.mul_le_mul h8 h1) (by decide)
theorem size_1024 (n : Nat) (hn : n ≤ 4194304) : 1024 ≤ size n := by
  obtain ⟨j, c, hj, h4, _, e, _⟩ := size_spec n hn
  rw [e]
  have h1 : 256 * 1 ≤ 256 * 2 ^ j := Nat.mul_le_mul_left _ (Nat.pow_pos (by decide))
  exact Nat.le_trans (by decide) (Nat.mul_le_mul h4 h1)
/-- it is the least: what lies between has the same bucket -/
theorem size_mid (n m : Nat) (hn : n ≤ 4194304) (h1 : n ≤ m) (h2 : m ≤ size n) : size m = size n := by
  have hle := size_le n hn
  obtain ⟨j, c, hj, h4, h8, e, h5, h6, h7⟩ := size_spec n hn
  rw [e] at h2 ⊢
  exact size_of j c hj h4 h8 h2 (by omega) (by omega) (by omega)
theorem size_self (n : Nat) (hn : n ≤ 4194304) : size (size n) = size n := size_mid n (size n) hn (size_ge n hn) (Nat.le_refl _)
theorem size_mono (n m : Nat) (hm : m ≤ 4194304) (h : n ≤ m) : size n ≤ size m := by
  rcases Nat.lt_or_ge (size n) m with h1 | h1
  · exact Nat.le_trans (Nat.le_of_lt h1) (size_ge m hm)
  · rw [size_mid n m (by omega) h h1]; exact Nat.le_refl _
theorem size_near (n : Nat) (hn : n ≤ 4194304) : size n = 1024 ∨ size n < n + n / 4 + 2 := by
  obtain ⟨j, c, hj, h4, h8, e, h5, h6, h7⟩ := size_spec n hn
  rw [e]
  have hp : 0 < 2 ^ j := Nat.pow_pos (by decide)
  rcases h7 with rfl | h7
  · rcases h6 with rfl | h6
    · exact .inl rfl
    · have e0 : 256 * 2 ^ 0 = 256 := rfl
      rw [e0] at h6 ⊢
      clear e h5 hp e0
      have : c = 4 ∨ c = 5 ∨ c = 6 ∨ c = 7 ∨ c = 8 := by omega
      rcases this with rfl | h
      · exact .inl rfl
      · refine .inr ?_
        rcases h with rfl | rfl | rfl | rfl <;> simp at h6 ⊢ <;> omega
  · refine .inr ?_
    generalize 256 * 2 ^ j = q at *
    rcases h6 with rfl | h6
    · omega
    · rw [Nat.sub_mul] at h6
      omega
/-- the next one is at most a quarter greater -/
theorem size_next (n : Nat) (hn : n ≤ 4194304) (h : size n ≠ 4194304) : size (size n + 1) ≤ size n + size n / 4 := by
  have hle := size_le n hn
  have hs : size n + 1 ≤ 4194304 := by omega
  obtain ⟨j, c, hj, h4, h8, e, h5, h6, h7⟩ := size_spec n hn
  have hp : 0 < 256 * 2 ^ j := by have : 0 < 2 ^ j := Nat.pow_pos (by decide); omega
  rcases Nat.lt_or_ge c 8 with hc | hc
  · have : size (size n + 1) = (c + 1) * (256 * 2 ^ j) := size_of j (c + 1) hj (by omega) (by omega) (by rw [e, Nat.add_mul]; omega) (.inr (by rw [e, Nat.add_sub_cancel]; omega))
      (by rcases h7 with h7 | h7
          · exact .inl h7
          · exact .inr (by omega)) hs
    rw [this, e, Nat.add_mul]
    generalize 256 * 2 ^ j = q at *
    have : q * 4 ≤ c * q := by rw [Nat.mul_comm c]; exact Nat.mul_le_mul_left _ h4
    omega
  · obtain rfl : c = 8 := by omega
    have h2 : 256 * 2 ^ (j + 1) = 2 * (256 * 2 ^ j) := by rw [Nat.pow_succ]; omega
    have hj' : j + 1 < 12 := by
      rcases Nat.lt_or_ge (j + 1) 12 with hh | hh
      · exact hh
      · obtain rfl : j = 11 := by omega
        have : 2 ^ 11 = 2048 := by decide
        omega
    have : size (size n + 1) = 5 * (256 * 2 ^ (j + 1)) := size_of (j + 1) 5 hj' (by omega) (by omega) (by omega) (.inr (by omega)) (.inr (by omega)) hs
    rw [this, e]
    omega

/-- b padded -/
def padL (zs : List Int) : List Int := zs ++ 128 :: List.replicate (size (zs.length + 1) - (zs.length + 1)) 0
theorem length_padL (zs : List Int) (h : zs.length < 4194304) : (padL zs).length = size (zs.length + 1) := by
  have := size_ge (zs.length + 1) (by omega)
  simp [padL]; omega

/-- what is ahead of the zeros at the end -/
structure IsTrim (zs : List Int) (t : Nat) : Prop where
  le : t ≤ zs.length
  zero : ∀ j, t ≤ j → j < zs.length → zs.getD j 0 = 0
  last : 0 < t → zs.getD (t - 1) 0 ≠ 0
theorem IsTrim.uniq {zs : List Int} {t u : Nat} (h : IsTrim zs t) (g : IsTrim zs u) : t = u := by
  rcases Nat.lt_trichotomy t u with hh | hh | hh
  · exact absurd (h.zero (u - 1) (by omega) (by have := g.le; omega)) (g.last (by omega))
  · exact hh
  · exact absurd (g.zero (t - 1) (by omega) (by have := h.le; omega)) (h.last (by omega))
theorem trim_exists (zs : List Int) : ∃ t, IsTrim zs t := by
  suffices ∀ u, u ≤ zs.length → (∀ j, u ≤ j → j < zs.length → zs.getD j 0 = 0) → ∃ t, IsTrim zs t from this zs.length (Nat.le_refl _) (fun j h1 h2 => absurd h2 (by omega))
  intro u
  induction u with
  | zero => intro h1 h2; exact ⟨0, h1, h2, fun h => absurd h (by omega)⟩
  | succ u ih =>
    intro h1 h2
    by_cases h : zs.getD u 0 = 0
    · exact ih (by omega) (fun j hj hl => by
        by_cases e : j = u
        · subst e; exact h
        · exact h2 j (by omega) hl)
    · exact ⟨u + 1, h1, h2, fun _ => h⟩
/-- whether zs, that are trimmed to t, are a bucket -/
def good (zs : List Int) (t : Nat) : Prop := 0 < t ∧ zs.getD (t - 1) 0 = 128 ∧ size t = zs.length
instance (zs : List Int) (t : Nat) : Decidable (good zs t) := by unfold good; infer_instance
/-- what Unpad answers -/
def ux (zs : List Int) (t : Nat) : List Int := if good zs t then zs.take (t - 1) else []
def ue (zs : List Int) (t : Nat) : Int := if good zs t then 0 else 170

/-- padded bytes, trimmed, are they and 128 -/
theorem trim_pad (zs : List Int) : IsTrim (padL zs) (zs.length + 1) := by
  refine ⟨by simp [padL], fun j h1 h2 => ?_, fun _ => ?_⟩
  · unfold padL
    rw [List.getD_eq_getElem?_getD, List.getElem?_append_right (by omega)]
    obtain ⟨k, rfl⟩ := Nat.exists_eq_add_of_le h1
    rw [show zs.length + 1 + k - zs.length = k + 1 by omega, List.getElem?_cons_succ]
    rw [List.getElem?_replicate]
    split <;> rfl
  · unfold padL
    rw [List.getD_eq_getElem?_getD, Nat.add_sub_cancel, List.getElem?_append_right (by omega), Nat.sub_self]
    simp
theorem good_pad (zs : List Int) (h : zs.length < 4194304) : good (padL zs) (zs.length + 1) := by
  refine ⟨by omega, ?_, (length_padL zs h).symm⟩
  unfold padL
  rw [List.getD_eq_getElem?_getD, Nat.add_sub_cancel, List.getElem?_append_right (by omega), Nat.sub_self]
  simp
theorem take_pad (zs : List Int) : (padL zs).take zs.length = zs := by
  unfold padL
  rw [List.take_append_of_le_length (Nat.le_refl _), List.take_length]
/-- what is padded is unpadded -/
theorem unpad_pad (zs : List Int) (h : zs.length < 4194304) {t : Nat} (ht : IsTrim (padL zs) t) : ux (padL zs) t = zs ∧ ue (padL zs) t = 0 := by
  obtain rfl := ht.uniq (trim_pad zs)
  unfold ux ue
  rw [if_pos (good_pad zs h), if_pos (good_pad zs h), Nat.add_sub_cancel, take_pad]
  exact ⟨rfl, rfl⟩
/-- zs is what its own head is padded to, just where it is a bucket -/
theorem again (zs : List Int) (t : Nat) (h : IsTrim zs t) (h0 : 0 < t) (hs : zs.length ≤ 4194304) : padL (zs.take (t - 1)) = zs ↔ good zs t := by
  have hl : (zs.take (t - 1)).length = t - 1 := by rw [List.length_take]; have := h.le; omega
  constructor
  · intro e
    have ht := trim_pad (zs.take (t - 1))
    have hg := good_pad (zs.take (t - 1)) (by rw [hl]; have := h.le; omega)
    rw [e, hl, Nat.sub_add_cancel h0] at hg
    exact hg
  · rintro ⟨_, h128, hsz⟩
    have hle := h.le
    refine List.ext_getElem? fun j => ?_
    unfold padL
    rw [hl, Nat.sub_add_cancel h0, hsz]
    rcases Nat.lt_trichotomy j (t - 1) with hj | hj | hj
    · rw [List.getElem?_append_left (by omega), List.getElem?_take_of_lt hj]
    · rw [List.getElem?_append_right (by omega), hl, hj, Nat.sub_self]
      rw [List.getD_eq_getElem?_getD] at h128
      rw [List.getElem?_eq_getElem (show t - 1 < zs.length by omega)] at h128 ⊢
      simpa using h128.symm
    · rw [List.getElem?_append_right (by omega), hl]
      obtain ⟨k, rfl⟩ := Nat.exists_eq_add_of_lt hj
      rw [show t - 1 + k + 1 - (t - 1) = k + 1 by omega, List.getElem?_cons_succ, List.getElem?_replicate]
      by_cases hk : t - 1 + k + 1 < zs.length
      · rw [if_pos (by omega)]
        have := h.zero (t - 1 + k + 1) (by omega) hk
        rw [List.getD_eq_getElem?_getD, List.getElem?_eq_getElem hk] at this
        rw [List.getElem?_eq_getElem hk]
        simpa using this.symm
      · rw [if_neg (by omega), List.getElem?_eq_none (by omega)]
/-- no bucket: a byte more, or one fewer -/
theorem bad_len (zs : List Int) (t : Nat) (h : IsTrim zs t) (hs : zs.length ≤ 4194304) (hm : zs.length % 256 ≠ 0) : ue zs t = 170 := by
  unfold ue
  rw [if_neg]
  rintro ⟨_, _, e⟩
  have := size_dvd t (by have := h.le; omega)
  omega
end Bk
end Go.Proofs.YtobepippjhmeaaaDoor
