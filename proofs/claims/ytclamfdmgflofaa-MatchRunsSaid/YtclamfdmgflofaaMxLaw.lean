/- What tokens stand for: they are the bytes. Plain lists. -/
import Derived.Test.YtclamfdmgflofaaMxExPure
import Derived.Test.YtclamfdmgflofaaMxPrev
namespace Go.Proofs.Ytclamfdmgflofaa
namespace Mx

theorem take_more' (b : List Int) (i : Nat) (h : i < b.length) : b.take (i + 1) = b.take i ++ [b.getD i 0] := by
  rw [List.take_succ_eq_append_getElem h]
  simp [List.getD, List.getElem?_eq_getElem h]

/-- a copy of what matches is what stands there -/
theorem cpy_is (a b : List Int) (i far : Nat) (h1 : 1 ≤ far) (h2 : far ≤ i) : ∀ m, i + m ≤ b.length → (∀ k, k < m → b.getD (i + k) 0 = b.getD (i - far + k) 0) → cpy far m (a ++ b.take i) = a ++ b.take (i + m)
  | 0, _, _ => rfl
  | m + 1, hl, hm => by
    rw [cpy_succ, cpy_is a b i far h1 h2 m (by omega) (fun k hk => hm k (by omega))]
    rw [show i + (m + 1) = (i + m) + 1 by omega, take_more' b (i + m) (by omega), List.append_assoc]
    congr 2
    have hlen : (a ++ b.take (i + m)).length = a.length + (i + m) := by rw [List.length_append, List.length_take]; omega
    rw [hlen, hm m (by omega), List.getD_eq_getElem?_getD, List.getD_eq_getElem?_getD, List.getElem?_append_right (by omega), List.getElem?_take_of_lt (by omega)]
    congr 2
    congr 1
    omega

/-- what the token at a place is -/
theorem tok_cases (b : List Int) (i : Nat) (hi : i < b.length) : (tokAt b i = (b.getD i 0, 0, 0) ∧ step b i = 1 ∧ (best b i).1 = 0) ∨
    (∃ n far : Nat, tokAt b i = (0, (n : Int), (far : Int)) ∧ step b i = n ∧ 4 ≤ n ∧ n ≤ 258 ∧ 1 ≤ far ∧ far ≤ i ∧ i + n ≤ b.length ∧ n = lng b i (i - far) ∧ best b i = (n, far)) := by
  have h := best4_spec b i i
  have h258 := (best4_le b i i).1
  rw [← best_is] at h h258
  rcases h with h | ⟨h1, h2, h3, h4⟩
  · exact .inl ⟨by unfold tokAt; rw [h]; rfl, by unfold step; rw [h]; rfl, by rw [h]⟩
  · refine .inr ⟨(best b i).1, (best b i).2, by unfold tokAt; rw [if_neg (by omega)], by unfold step; omega, h1, h258, h2, h3, ?_, h4, rfl⟩
    rw [h4]
    exact lng_len b i _ (by omega)
theorem tok_ck (b : List Int) (i : Nat) (hi : i < b.length) (hl : b.length ≤ 60000) : ck (tokAt b i) = 0 ∧ (tokAt b i).2.2 ≤ (i : Int) := by
  rcases tok_cases b i hi with ⟨h, _⟩ | ⟨n, far, h, _, h1, h2, h3, h4, h5, _⟩
  · rw [h]
    exact ⟨by unfold ck; rw [if_pos (.inl ⟨rfl, rfl⟩)], by simp⟩
  · rw [h]
    refine ⟨?_, by simp; omega⟩
    unfold ck
    exact if_pos (.inr ⟨rfl, by simp; omega, by simp; omega, by simp; omega, by simp; omega⟩)
theorem tok_put (a b : List Int) (i : Nat) (hi : i < b.length) : put (tokAt b i) (a ++ b.take i) = a ++ b.take (i + step b i) := by
  rcases tok_cases b i hi with ⟨h, hs, _⟩ | ⟨n, far, h, hs, h1, h2, h3, h4, h5, h6, _⟩
  · rw [h, hs, take_more' b i hi, ← List.append_assoc]; rfl
  · rw [h, hs]
    unfold put
    rw [if_neg (by simp; omega)]
    simp only [Int.toNat_natCast]
    exact cpy_is a b i far h3 h4 n h5 (fun k hk => lng_same b i (i - far) k (by omega))
theorem step_end (b : List Int) (i : Nat) (hi : i < b.length) : i + step b i ≤ b.length := by
  rcases tok_cases b i hi with ⟨_, hs, _⟩ | ⟨n, far, _, hs, _, _, _, _, h5, _⟩ <;> omega

theorem ex_back (a b : List Int) (most : Int) (hl : b.length ≤ 60000) (hm : (b.length : Int) ≤ most) : ∀ f i, i ≤ b.length → b.length ≤ i + f → ex a.length most (toks b f i) (a ++ b.take i) = (b, 0)
  | f, i, h1, h2 => by
    by_cases h : i < b.length
    · obtain ⟨f', rfl⟩ : ∃ f', f = f' + 1 := ⟨f - 1, by omega⟩
      rw [toks, if_pos h, ex]
      obtain ⟨c1, c2⟩ := tok_ck b i h hl
      have hlen : (a ++ b.take i).length = a.length + i := by rw [List.length_append, List.length_take]; omega
      have hse := step_end b i h
      have hsp := step_pos b i
      have hlen2 : (a ++ b.take (i + step b i)).length = a.length + (i + step b i) := by rw [List.length_append, List.length_take]; omega
      rw [tok_put a b i h, if_neg (by rw [c1, hlen]; omega), if_neg (by rw [hlen2]; omega)]
      exact ex_back a b most hl hm f' (i + step b i) hse (by omega)
    · have hi : i = b.length := by omega
      have : toks b f i = [] := by
        cases f with
        | zero => rfl
        | succ f => rw [toks, if_neg h]
      rw [this, ex, hi, List.take_length, List.drop_left]
  termination_by f => f
theorem ex_less (a b : List Int) (hl : b.length ≤ 60000) : ∀ f i, i < b.length → b.length ≤ i + f → ex a.length ((b.length : Int) - 1) (toks b f i) (a ++ b.take i) = ([], 151)
  | f, i, h, h2 => by
    obtain ⟨f', rfl⟩ : ∃ f', f = f' + 1 := ⟨f - 1, by omega⟩
    rw [toks, if_pos h, ex]
    obtain ⟨c1, c2⟩ := tok_ck b i h hl
    have hlen : (a ++ b.take i).length = a.length + i := by rw [List.length_append, List.length_take]; omega
    have hse := step_end b i h
    have hsp := step_pos b i
    have hlen2 : (a ++ b.take (i + step b i)).length = a.length + (i + step b i) := by rw [List.length_append, List.length_take]; omega
    rw [tok_put a b i h, if_neg (by rw [c1, hlen]; omega)]
    by_cases he : i + step b i = b.length
    · rw [if_pos (by rw [hlen2]; omega)]
    · rw [if_neg (by rw [hlen2]; omega)]
      exact ex_less a b hl f' (i + step b i) (by omega) (by omega)
  termination_by f => f
theorem expand_find (a b : List Int) (most : Int) (hl : b.length ≤ 60000) (hm : (b.length : Int) ≤ most) : expand a (find b) most = (b, 0) := by
  unfold expand find
  rw [if_neg (by omega)]
  have := ex_back a b most hl hm b.length 0 (Nat.zero_le _) (by omega)
  rwa [List.take_zero, List.append_nil] at this
theorem expand_less (b : List Int) (hl : b.length ≤ 60000) (h : 0 < b.length) : expand [] (find b) ((b.length : Int) - 1) = ([], 151) := by
  unfold expand find
  rw [if_neg (by omega)]
  have := ex_less [] b hl b.length 0 h (by omega)
  rwa [List.take_zero, List.append_nil] at this
theorem toks_mem (b : List Int) : ∀ f i t, t ∈ toks b f i → ∃ j, i ≤ j ∧ j < b.length ∧ t = tokAt b j
  | 0, i, t, h => by simp [toks] at h
  | f + 1, i, t, h => by
    unfold toks at h
    split at h
    · rename_i hi
      rcases List.mem_cons.1 h with h | h
      · exact ⟨i, Nat.le_refl _, hi, h⟩
      · obtain ⟨j, h1, h2, h3⟩ := toks_mem b f _ t h
        exact ⟨j, by omega, h2, h3⟩
    · simp at h
theorem find_ck (b : List Int) (hl : b.length ≤ 60000) (t : Tok) (h : t ∈ find b) : ck t = 0 := by
  obtain ⟨j, _, hj, rfl⟩ := toks_mem b _ _ t h
  exact (tok_ck b j hj hl).1

/-! ### bytes that are all the same -/
theorem lng_run (by0 : Int) (n i j : Nat) (hi : i ≤ n) (hj : j ≤ i) : lng (List.replicate n by0) i j = min 258 (n - i) := by
  have h1 := lng_le (List.replicate n by0) i j
  have h2 := lng_len (List.replicate n by0) i j (by simpa using hi)
  have h3 := lng_ge (List.replicate n by0) i j (min 258 (n - i)) (by omega) (by simp; omega) (fun k hk => by
    simp [List.getD, List.getElem?_replicate]
    rw [if_pos (by omega), if_pos (by omega)])
  simp at h2
  omega
theorem bestUp_run (by0 : Int) (n i : Nat) (hi : i < n) : ∀ k, 1 ≤ k → k ≤ i → bestUp (List.replicate n by0) i k = (min 258 (n - i), 1)
  | 0, h, _ => by omega
  | k + 1, _, h => by
    rw [bestUp, lng_run by0 n i (i - (k + 1)) (by omega) (by omega)]
    cases k with
    | zero => rw [bestUp, if_pos (by simp; omega)]
    | succ k => rw [bestUp_run by0 n i hi (k + 1) (by omega) (by omega), if_neg (by simp)]
theorem best_run (by0 : Int) (n i : Nat) (hi : i < n) (h1 : 1 ≤ i) : best (List.replicate n by0) i = if min 258 (n - i) < 4 then (0, 0) else (min 258 (n - i), 1) := by
  unfold best
  rw [bestUp_run by0 n i hi i h1 (Nat.le_refl _)]
theorem best_zero (b : List Int) : best b 0 = (0, 0) := rfl
theorem find_run_far (by0 : Int) (n : Nat) (t : Nat) (h1 : 1 ≤ t) (h2 : t < (find (List.replicate n by0)).length) (h3 : 0 < ((find (List.replicate n by0)).getD t (0, 0, 0)).2.1) : ((find (List.replicate n by0)).getD t (0, 0, 0)).2.2 = 1 := by
  have hm : (find (List.replicate n by0)).getD t (0, 0, 0) ∈ (find (List.replicate n by0)).drop 1 := by
    rw [List.getD_eq_getElem?_getD, List.getElem?_eq_getElem h2]
    rw [List.mem_iff_getElem]
    exact ⟨t - 1, by rw [List.length_drop]; omega, by rw [List.getElem_drop]; congr 1; omega⟩
  generalize (find (List.replicate n by0)).getD t (0, 0, 0) = x at *
  cases n with
  | zero => simp [find, toks] at h2
  | succ n =>
    have he : find (List.replicate (n + 1) by0) = tokAt (List.replicate (n + 1) by0) 0 :: toks (List.replicate (n + 1) by0) n (0 + step (List.replicate (n + 1) by0) 0) := by
      unfold find
      rw [List.length_replicate, toks, if_pos (by simp)]
    rw [he, List.drop_succ_cons, List.drop_zero] at hm
    obtain ⟨j, hj1, hj2, rfl⟩ := toks_mem _ _ _ _ hm
    have hs : step (List.replicate (n + 1) by0) 0 = 1 := by unfold step; rw [best_zero]; rfl
    rw [hs] at hj1
    rw [List.length_replicate] at hj2
    unfold tokAt at h3 ⊢
    rw [best_run by0 (n + 1) j hj2 (by omega)] at h3 ⊢
    by_cases hc : min 258 (n + 1 - j) < 4
    · rw [if_pos hc] at h3; simp at h3
    · rw [if_neg hc] at h3 ⊢
      rw [if_neg (by simp; omega)]
      rfl
theorem find_run_one (by0 : Int) (n : Nat) (h : 5 < n) : 2 ≤ (find (List.replicate n by0)).length ∧ ((find (List.replicate n by0)).getD 1 (0, 0, 0)).2.1 = ((min (n - 1) 258 : Nat) : Int) := by
  obtain ⟨m, rfl⟩ : ∃ m, n = m + 2 := ⟨n - 2, by omega⟩
  have he : find (List.replicate (m + 2) by0) = tokAt (List.replicate (m + 2) by0) 0 :: tokAt (List.replicate (m + 2) by0) 1 :: toks (List.replicate (m + 2) by0) m (1 + step (List.replicate (m + 2) by0) 1) := by
    unfold find
    have hs : step (List.replicate (m + 2) by0) 0 = 1 := by unfold step; rw [best_zero]; rfl
    rw [List.length_replicate, toks, if_pos (by simp), hs, Nat.zero_add, toks, if_pos (by simp)]
  rw [he]
  refine ⟨by simp, ?_⟩
  simp only [List.getD_cons_succ, List.getD_cons_zero]
  have hb := best_run by0 (m + 2) 1 (by omega) (by omega)
  rw [if_neg (by omega)] at hb
  unfold tokAt
  rw [hb, if_neg (show ¬ min 258 (m + 2 - 1) = 0 by omega)]
  show ((min 258 (m + 2 - 1) : Nat) : Int) = _
  omega

/-! ### bytes that are there twice -/
theorem best_twice (b : List Int) (h4 : 4 ≤ b.length) (h258 : b.length ≤ 258) : (best (b ++ b) b.length).1 = b.length ∧ (best (b ++ b) b.length).2 ≤ b.length := by
  have hL : lng (b ++ b) b.length (b.length - b.length) = b.length := by
    have h1 := lng_len (b ++ b) b.length (b.length - b.length) (by simp)
    have h2 := lng_ge (b ++ b) b.length (b.length - b.length) b.length h258 (by simp) (fun k hk => by
      rw [List.getD_eq_getElem?_getD, List.getD_eq_getElem?_getD, List.getElem?_append_right (by omega), List.getElem?_append_left (by omega)]
      congr 2
      omega)
    simp at h1 h2 ⊢
    omega
  have h := best4_spec (b ++ b) b.length b.length
  have hmax : b.length ≤ (best (b ++ b) b.length).1 := by
    have := best4_max (b ++ b) b.length b.length b.length (by omega) (Nat.le_refl _) (by rw [hL]; exact h4)
    rw [hL, ← best_is] at this
    exact this
  rw [← best_is] at h
  rcases h with h | ⟨h1, h2, h3, h5⟩
  · rw [h] at hmax
    have : b.length ≤ 0 := hmax
    omega
  · refine ⟨?_, h3⟩
    have := lng_len (b ++ b) b.length (b.length - (best (b ++ b) b.length).2) (by simp)
    rw [← h5] at this
    simp at this
    omega

/-! ### no four bytes twice -/
theorem best_never (b : List Int) (h : ∀ i k, i + 4 ≤ b.length → k < i → ¬ eq4 b k i) (i : Nat) (hi : i ≤ b.length) : best b i = (0, 0) := by
  rw [best_is, best4_skip b i 0 i (Nat.zero_le _) (fun j h1 h2 h4 => by
    have := lng_len b i (i - j) hi
    exact h i (i - j) (by omega) (by omega) (eq4_of_lng h4))]
  rfl
theorem toks_never (b : List Int) (h : ∀ i k, i + 4 ≤ b.length → k < i → ¬ eq4 b k i) : ∀ f i, i ≤ b.length → b.length ≤ i + f → toks b f i = (b.drop i).map (fun x => (x, 0, 0))
  | f, i, h1, h2 => by
    by_cases hi : i < b.length
    · obtain ⟨f', rfl⟩ : ∃ f', f = f' + 1 := ⟨f - 1, by omega⟩
      have hb := best_never b h i h1
      have hs : step b i = 1 := by unfold step; rw [hb]; rfl
      rw [toks, if_pos hi, hs, toks_never b h f' (i + 1) (by omega) (by omega), List.drop_eq_getElem_cons hi, List.map_cons]
      congr 1
      unfold tokAt
      rw [hb, if_pos rfl]
      simp [List.getD, List.getElem?_eq_getElem hi]
    · have : b.drop i = [] := List.drop_eq_nil_of_le (by omega)
      rw [this]
      cases f with
      | zero => rfl
      | succ f => rw [toks, if_neg hi]; rfl
  termination_by f => f
theorem find_never (b : List Int) (h : ∀ i k, i + 4 ≤ b.length → k < i → ¬ eq4 b k i) : find b = b.map (fun x => (x, 0, 0)) := by
  have := toks_never b h b.length 0 (Nat.zero_le _) (by omega)
  rwa [List.drop_zero] at this

/-! ### tokens in two parts -/
/-- what good tokens lead to: the state behind them -/
theorem ex_state (h : Nat) (most : Int) : ∀ (ts : List Tok) (all x : List Int), ex h most ts all = (x, 0) → ∃ S r, S = all ++ r ∧ x = S.drop h ∧ (∀ l2, ex h most (ts ++ l2) all = ex h most l2 S) ∧ (∀ h', h ≤ h' → ex h' most ts all = (S.drop h', 0))
  | [], all, x, e => by
    simp only [ex, Prod.mk.injEq, and_true] at e
    exact ⟨all, [], by simp, e.symm, fun _ => rfl, fun _ _ => rfl⟩
  | t :: ts, all, x, e => by
    rw [ex] at e
    by_cases c1 : ck t ≠ 0 ∨ (all.length : Int) < t.2.2
    · rw [if_pos c1] at e; simp at e
    · rw [if_neg c1] at e
      by_cases c2 : most < ((put t all).length : Int) - h
      · rw [if_pos c2] at e; simp at e
      · rw [if_neg c2] at e
        obtain ⟨S, r, h1, h2, h3, h4⟩ := ex_state h most ts (put t all) x e
        obtain ⟨r0, hr0⟩ : ∃ r0, put t all = all ++ r0 := by
          unfold put
          split
          · exact ⟨_, rfl⟩
          · exact cpy_pre _ _ _
        refine ⟨S, r0 ++ r, by rw [h1, hr0, List.append_assoc], h2, fun l2 => ?_, fun h' hh => ?_⟩
        · rw [List.cons_append, ex, if_neg c1, if_neg c2, h3]
        · rw [ex, if_neg c1, if_neg (by omega), h4 h' hh]
where
  cpy_pre (far : Nat) : ∀ (n : Nat) (all : List Int), ∃ r, cpy far n all = all ++ r
    | 0, all => ⟨[], by simp [cpy]⟩
    | n + 1, all => by
      obtain ⟨r, hr⟩ := cpy_pre far n (all ++ [all.getD (all.length - far) 0])
      exact ⟨_ :: r, by rw [cpy, hr, List.append_assoc]; rfl⟩
theorem ex_prefix (h : Nat) (most : Int) (l2 : List Tok) : ∀ (ts : List Tok) (all : List Int), (ex h most ts all).2 ≠ 0 → (ex h most (ts ++ l2) all).2 ≠ 0
  | [], all, e => by simp [ex] at e
  | t :: ts, all, e => by
    rw [List.cons_append, ex]
    rw [ex] at e
    split
    · simp
    · rename_i c1
      rw [if_neg c1] at e
      split
      · simp
      · rename_i c2
        rw [if_neg c2] at e
        exact ex_prefix h most l2 ts _ e
theorem expand_split (l : List Tok) (k : Nat) (most : Int) (hm : 0 ≤ most) (h : (expand [] l most).2 = 0) :
    (expand [] (l.take k) most).2 = 0 ∧ (expand (expand [] (l.take k) most).1 (l.drop k) most).2 = 0 ∧ (expand [] (l.take k) most).1 ++ (expand (expand [] (l.take k) most).1 (l.drop k) most).1 = (expand [] l most).1 := by
  have hn : ¬ most < 0 := by omega
  unfold expand at h ⊢
  simp only [if_neg hn, List.length_nil] at h ⊢
  have hl : l = l.take k ++ l.drop k := (List.take_append_drop k l).symm
  have h1 : (ex 0 most (l.take k) []).2 = 0 := by
    rcases Decidable.em ((ex 0 most (l.take k) []).2 = 0) with h1 | h1
    · exact h1
    · exact absurd h (by rw [hl]; exact ex_prefix 0 most _ _ _ h1)
  obtain ⟨x, hx⟩ : ∃ x, ex 0 most (l.take k) [] = (x, 0) := ⟨_, Prod.ext rfl h1⟩
  obtain ⟨S, r, _, e2, e3, _⟩ := ex_state 0 most _ _ _ hx
  rw [List.drop_zero] at e2
  subst e2
  have e4 := e3 (l.drop k)
  rw [← hl] at e4
  obtain ⟨y, hy⟩ : ∃ y, ex 0 most l [] = (y, 0) := ⟨_, Prod.ext rfl h⟩
  rw [hy] at e4
  obtain ⟨T, r2, f1, f2, _, f4⟩ := ex_state 0 most _ _ _ e4.symm
  rw [List.drop_zero] at f2
  subst f2
  rw [hx, hy]
  simp only
  rw [f4 x.length (Nat.zero_le _)]
  refine ⟨trivial, rfl, ?_⟩
  rw [f1, List.drop_left]
end Mx
end Go.Proofs.Ytclamfdmgflofaa
