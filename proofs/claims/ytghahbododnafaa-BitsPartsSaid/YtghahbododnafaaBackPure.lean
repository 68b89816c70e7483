/- Numbers that were put are the bits that are taken: plain lists. -/
import Derived.Test.YtghahbododnafaaPutAny
namespace Go.Proofs.Ytghahbododnafaa
open Go.RowKit
open Bt

abbrev Call3 := Int × Int × Bool
def callCells (c : Call3) : List Value := [.int .u64 c.1, .int .i64 c.2.1, .bool c.2.2]
def flat (G : List Call3) : List Value := G.flatMap callCells
theorem flat_len (G : List Call3) : (flat G).length = G.length * 3 := by
  induction G with
  | nil => rfl
  | cons c t ih => simp [flat, callCells] at ih ⊢; omega
theorem flat_get (G : List Call3) : ∀ i, i < G.length → (flat G)[i * 3]? = some (.int .u64 (G.getD i (0, 0, false)).1) ∧ (flat G)[i * 3 + 1]? = some (.int .i64 (G.getD i (0, 0, false)).2.1) ∧ (flat G)[i * 3 + 2]? = some (.bool (G.getD i (0, 0, false)).2.2) := by
  induction G with
  | nil => intro i hi; simp at hi
  | cons c t ih =>
    intro i hi
    have e : flat (c :: t) = callCells c ++ flat t := rfl
    cases i with
    | zero => rw [e]; simp [callCells]
    | succ i =>
      have h := ih i (by simpa using hi)
      rw [e, show (i + 1) * 3 = 3 + i * 3 from by omega]
      have el : (callCells c).length = 3 := rfl
      refine ⟨?_, ?_, ?_⟩
      · rw [List.getElem?_append_right (by rw [el]; omega), el, Nat.add_sub_cancel_left]; exact h.1
      · rw [List.getElem?_append_right (by rw [el]; omega), el, show 3 + i * 3 + 1 - 3 = i * 3 + 1 from by omega]; exact h.2.1
      · rw [List.getElem?_append_right (by rw [el]; omega), el, show 3 + i * 3 + 2 - 3 = i * 3 + 2 from by omega]; exact h.2.2

/-- the bits of numbers that were put -/
def bitsAll (G : List Call3) : List Bool := G.flatMap fun c => bitsOf c.1.toNat c.2.1.toNat
def AllGood (G : List Call3) : Prop := ∀ c ∈ G, 0 ≤ c.1 ∧ Good c.1 c.2.1

theorem bitsAll_append (A B : List Call3) : bitsAll (A ++ B) = bitsAll A ++ bitsAll B := by simp [bitsAll]
theorem bitsAll_snoc (G : List Call3) (c : Call3) : bitsAll (G ++ [c]) = bitsAll G ++ bitsOf c.1.toNat c.2.1.toNat := by simp [bitsAll]
theorem bitsAll_take_len (G : List Call3) (h : AllGood G) (i : Nat) : (bitsAll (G.take i)).length ≤ 32 * i := by
  induction i with
  | zero => simp [bitsAll]
  | succ i ih =>
    by_cases hi : i < G.length
    · rw [List.take_succ_eq_append_getElem hi, bitsAll_snoc, List.length_append, length_bitsOf]
      have := (h _ (List.getElem_mem hi)).2
      obtain ⟨h1, h2, _⟩ := this
      omega
    · rw [List.take_of_length_le (by omega)]
      rw [List.take_of_length_le (by omega)] at ih
      omega

theorem taken (G : List Call3) (h : AllGood G) (i : Nat) (hi : i < G.length) (Z : List Bool) :
    (val (((bitsAll G ++ Z).drop (bitsAll (G.take i)).length).take (G.getD i (0, 0, false)).2.1.toNat) : Int) = (G.getD i (0, 0, false)).1 := by
  have hg : G.getD i (0, 0, false) = G[i] := by simp [List.getD, hi]
  rw [hg]
  obtain ⟨h0, h1, h2, h3⟩ := h _ (List.getElem_mem hi)
  have e : bitsAll G = bitsAll (G.take i) ++ (bitsOf G[i].1.toNat G[i].2.1.toNat ++ bitsAll (G.drop (i + 1))) := by
    have t := bitsAll_append (G.take i) (G.drop i)
    rw [List.take_append_drop, List.drop_eq_getElem_cons hi] at t
    exact t
  rw [e, List.append_assoc, List.drop_left, List.append_assoc, List.take_append_of_le_length (by rw [length_bitsOf]; omega), List.take_of_length_le (by rw [length_bitsOf]; omega), val_bitsOf, Nat.mod_eq_of_lt]
  · omega
  · have e2 : ((2 : Int) ^ G[i].2.1.toNat) = ((2 ^ G[i].2.1.toNat : Nat) : Int) := by simp
    rw [e2] at h3
    generalize 2 ^ G[i].2.1.toNat = m at *
    omega

theorem taken_len (G : List Call3) (i : Nat) (hi : i < G.length) : (bitsAll (G.take (i + 1))).length = (bitsAll (G.take i)).length + (G.getD i (0, 0, false)).2.1.toNat := by
  have hg : G.getD i (0, 0, false) = G[i] := by simp [List.getD, hi]
  rw [hg, List.take_succ_eq_append_getElem hi, bitsAll_snoc, List.length_append, length_bitsOf]
theorem taken_le (G : List Call3) (i : Nat) : (bitsAll (G.take i)).length ≤ (bitsAll G).length := by
  have t := bitsAll_append (G.take i) (G.drop i)
  rw [List.take_append_drop] at t
  rw [t, List.length_append]
  omega

theorem pad_bytes (L : List Bool) : ∀ x ∈ pad L, 0 ≤ x ∧ x ≤ 255 := by
  intro x hx
  simp only [pad, octs, List.mem_map] at hx
  obtain ⟨i, _, rfl⟩ := hx
  have := byteAt_lt L i
  omega
theorem val_zeros (k : Nat) : val (List.replicate k false) = 0 := by
  induction k with
  | zero => rfl
  | succ k ih => simp [List.replicate_succ, val, ih]
theorem pad_zeros (L : List Bool) : zeros (unbits (pad L)) L.length (up L.length) = true := by
  unfold zeros
  rw [unbits_pad, List.drop_left, List.take_replicate, val_zeros]
  rfl
end Go.Proofs.Ytghahbododnafaa
