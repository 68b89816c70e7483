/- Lists of bits, and what bytes and numbers they are: plain lists and numbers, no program. -/
namespace Go.Proofs.Ytghahbododnafaa
namespace Bt

def val : List Bool → Nat
  | [] => 0
  | b :: t => b.toNat + 2 * val t

def bitsOf (n : Nat) : Nat → List Bool
  | 0 => []
  | k + 1 => (n % 2 == 1) :: bitsOf (n / 2) k

theorem length_bitsOf (k : Nat) : ∀ n, (bitsOf n k).length = k := by
  induction k with
  | zero => intro n; rfl
  | succ k ih => intro n; simp [bitsOf, ih]

theorem val_bitsOf (k : Nat) : ∀ n, val (bitsOf n k) = n % 2 ^ k := by
  induction k with
  | zero => intro n; simp [bitsOf, val, Nat.mod_one]
  | succ k ih =>
    intro n
    simp only [bitsOf, val, ih]
    have h1 : (n % 2 == 1).toNat = n % 2 := by
      have : n % 2 = 0 ∨ n % 2 = 1 := by omega
      rcases this with h | h <;> simp [h]
    rw [h1, Nat.pow_succ, Nat.mul_comm (2 ^ k) 2, Nat.mod_mul]

theorem val_append (a b : List Bool) : val (a ++ b) = val a + 2 ^ a.length * val b := by
  induction a with
  | nil => simp [val]
  | cons x t ih =>
    simp only [List.cons_append, val, ih, List.length_cons, Nat.pow_succ]
    have : 2 * (2 ^ t.length * val b) = 2 ^ t.length * 2 * val b := by rw [Nat.mul_comm (2 ^ t.length) 2, Nat.mul_assoc]
    omega

theorem val_lt (a : List Bool) : val a < 2 ^ a.length := by
  induction a with
  | nil => simp [val]
  | cons x t ih =>
    simp only [val, List.length_cons, Nat.pow_succ]
    have : x.toNat ≤ 1 := by cases x <;> simp
    omega

theorem val_take (a : List Bool) (k : Nat) : val (a.take k) = val a % 2 ^ k := by
  by_cases h : k ≤ a.length
  · have e : val a = val (a.take k) + 2 ^ k * val (a.drop k) := by
      have := val_append (a.take k) (a.drop k)
      rw [List.take_append_drop] at this
      rw [this, List.length_take, Nat.min_eq_left h]
    have hl : val (a.take k) < 2 ^ k := by
      have := val_lt (a.take k)
      rw [List.length_take, Nat.min_eq_left h] at this
      exact this
    rw [e, Nat.add_mul_mod_self_left, Nat.mod_eq_of_lt hl]
  · rw [List.take_of_length_le (by omega)]
    have := val_lt a
    have h2 : 2 ^ a.length ≤ 2 ^ k := Nat.pow_le_pow_right (by omega) (by omega)
    rw [Nat.mod_eq_of_lt (by omega)]

theorem val_drop (a : List Bool) (k : Nat) : val (a.drop k) = val a / 2 ^ k := by
  by_cases h : k ≤ a.length
  · have e : val a = val (a.take k) + 2 ^ k * val (a.drop k) := by
      have := val_append (a.take k) (a.drop k)
      rw [List.take_append_drop] at this
      rw [this, List.length_take, Nat.min_eq_left h]
    have hl : val (a.take k) < 2 ^ k := by
      have := val_lt (a.take k)
      rw [List.length_take, Nat.min_eq_left h] at this
      exact this
    rw [e, Nat.add_mul_div_left _ _ (Nat.two_pow_pos k), Nat.div_eq_of_lt hl, Nat.zero_add]
  · rw [List.drop_of_length_le (by omega)]
    have := val_lt a
    have h2 : 2 ^ a.length ≤ 2 ^ k := Nat.pow_le_pow_right (by omega) (by omega)
    rw [Nat.div_eq_of_lt (by omega)]
    rfl

theorem val_inj : ∀ (a b : List Bool), a.length = b.length → val a = val b → a = b := by
  intro a
  induction a with
  | nil => intro b h _; cases b with | nil => rfl | cons _ _ => simp at h
  | cons x t ih =>
    intro b h hv
    cases b with
    | nil => simp at h
    | cons y u =>
      simp only [val] at hv
      have hx : x.toNat ≤ 1 := by cases x <;> simp
      have hy : y.toNat ≤ 1 := by cases y <;> simp
      have h1 : x.toNat = y.toNat := by omega
      have h2 : val t = val u := by omega
      have h3 : x = y := by cases x <;> cases y <;> simp_all
      rw [h3, ih u (by simpa using h) h2]

theorem bitsOf_val (a : List Bool) : bitsOf (val a) a.length = a := by
  refine val_inj _ _ (length_bitsOf _ _) ?_
  rw [val_bitsOf, Nat.mod_eq_of_lt (val_lt a)]

/-- byte i of a list of bits, bits 0 behind its end -/
def byteAt (l : List Bool) (i : Nat) : Nat := val ((l.drop (8 * i)).take 8)

theorem byteAt_lt (l : List Bool) (i : Nat) : byteAt l i < 256 := by
  unfold byteAt
  have := val_lt ((l.drop (8 * i)).take 8)
  have h : ((l.drop (8 * i)).take 8).length ≤ 8 := by rw [List.length_take]; omega
  have h2 : 2 ^ ((l.drop (8 * i)).take 8).length ≤ 2 ^ 8 := Nat.pow_le_pow_right (by omega) h
  omega

/-- the first k bytes -/
def octs (l : List Bool) (k : Nat) : List Int := (List.range k).map fun i => (byteAt l i : Int)

/-- all bytes, bits 0 up to a whole byte -/
def pad (l : List Bool) : List Int := octs l ((l.length + 7) / 8)

theorem length_octs (l : List Bool) (k : Nat) : (octs l k).length = k := by simp [octs]
theorem length_pad (l : List Bool) : (pad l).length = (l.length + 7) / 8 := by simp [pad, length_octs]
theorem octs_succ (l : List Bool) (k : Nat) : octs l (k + 1) = octs l k ++ [(byteAt l k : Int)] := by simp [octs, List.range_succ]
theorem octs_get (l : List Bool) (k i : Nat) (h : i < k) : (octs l k)[i]? = some (byteAt l i : Int) := by simp [octs, h]
theorem octs_getD (l : List Bool) (k i : Nat) (h : i < k) : (octs l k).getD i 0 = (byteAt l i : Int) := by simp [List.getD, octs_get l k i h]

theorem byteAt_append (l m : List Bool) (i : Nat) (h : 8 * i + 8 ≤ l.length) : byteAt (l ++ m) i = byteAt l i := by
  unfold byteAt
  rw [List.drop_append_of_le_length (by omega), List.take_append_of_le_length (by rw [List.length_drop]; omega)]

theorem octs_append (l m : List Bool) (k : Nat) (h : 8 * k ≤ l.length) : octs (l ++ m) k = octs l k := by
  unfold octs
  refine List.map_congr_left fun i hi => ?_
  rw [byteAt_append l m i (by have := List.mem_range.1 hi; omega)]

/-- the bits of bytes -/
def unbits (xs : List Int) : List Bool := xs.flatMap fun x => bitsOf x.toNat 8

theorem length_unbits (xs : List Int) : (unbits xs).length = 8 * xs.length := by
  induction xs with
  | nil => rfl
  | cons x t ih =>
    have : unbits (x :: t) = bitsOf x.toNat 8 ++ unbits t := rfl
    rw [this, List.length_append, length_bitsOf, ih, List.length_cons]; omega

theorem unbits_append (xs ys : List Int) : unbits (xs ++ ys) = unbits xs ++ unbits ys := by simp [unbits]

theorem unbits_drop (xs : List Int) : ∀ (i : Nat), (unbits xs).drop (8 * i) = unbits (xs.drop i) := by
  induction xs with
  | nil => intro i; simp [unbits]
  | cons x t ih =>
    intro i
    cases i with
    | zero => simp
    | succ i =>
      have : unbits (x :: t) = bitsOf x.toNat 8 ++ unbits t := rfl
      rw [this, show 8 * (i + 1) = (bitsOf x.toNat 8).length + 8 * i from by rw [length_bitsOf]; omega, List.drop_append, List.drop_of_length_le (by omega)]
      simp [ih]

/-- a piece of bits inside one byte -/
theorem piece (xs : List Int) (i j k : Nat) (hi : i < xs.length) (hjk : j + k ≤ 8) (hx : 0 ≤ xs.getD i 0 ∧ xs.getD i 0 < 256) :
    val (((unbits xs).drop (8 * i + j)).take k) = (xs.getD i 0).toNat / 2 ^ j % 2 ^ k := by
  rw [← List.drop_drop, unbits_drop]
  have hd : xs.drop i = xs[i] :: xs.drop (i + 1) := List.drop_eq_getElem_cons hi
  have hg : xs.getD i 0 = xs[i] := by simp [List.getD, hi]
  rw [hg] at hx ⊢
  have hu : unbits (xs.drop i) = bitsOf xs[i].toNat 8 ++ unbits (xs.drop (i + 1)) := by rw [hd]; rfl
  rw [hu, List.drop_append_of_le_length (by rw [length_bitsOf]; omega), List.take_append_of_le_length (by rw [List.length_drop, length_bitsOf]; omega),
    val_take, val_drop, val_bitsOf, Nat.mod_eq_of_lt (show xs[i].toNat < 2 ^ 8 by omega)]

theorem unbits_octs (l : List Bool) (k : Nat) (h : 8 * k ≤ l.length) : unbits (octs l k) = l.take (8 * k) := by
  induction k with
  | zero => simp [octs, unbits]
  | succ k ih =>
    rw [octs_succ, unbits_append, ih (by omega)]
    have e : unbits [(byteAt l k : Int)] = (l.drop (8 * k)).take 8 := by
      have hl : ((l.drop (8 * k)).take 8).length = 8 := by rw [List.length_take, List.length_drop]; omega
      have := bitsOf_val ((l.drop (8 * k)).take 8)
      rw [hl] at this
      simpa [unbits, byteAt] using this
    rw [e, show 8 * (k + 1) = 8 * k + 8 from by omega, List.take_add]

theorem val_snoc (l : List Bool) (b : Bool) : val (l ++ [b]) = val l + 2 ^ l.length * b.toNat := by rw [val_append]; simp [val]

/-- bit i of a byte put behind: what a byte is while bits are added one by one -/
theorem byteAt_snoc (l : List Bool) (b : Bool) (j : Nat) :
    byteAt (l ++ [b]) j = byteAt l j + if l.length / 8 = j then 2 ^ (l.length % 8) * b.toNat else 0 := by
  unfold byteAt
  by_cases h : l.length / 8 = j
  · rw [if_pos h]
    subst h
    have h1 : 8 * (l.length / 8) ≤ l.length := by omega
    rw [List.drop_append_of_le_length h1]
    have hl : (l.drop (8 * (l.length / 8))).length = l.length % 8 := by rw [List.length_drop]; omega
    rw [List.take_of_length_le (by rw [List.length_append, hl]; simp; omega), List.take_of_length_le (by rw [hl]; omega), val_snoc, hl]
  · rw [if_neg h]
    by_cases h2 : l.length / 8 < j
    · rw [List.drop_of_length_le (by simp; omega), List.drop_of_length_le (by omega)]; rfl
    · rw [List.drop_append_of_le_length (by omega), List.take_append_of_le_length (by rw [List.length_drop]; omega)]
      rfl

theorem pad_get (l : List Bool) (i : Nat) (h : i < (l.length + 7) / 8) : (pad l).getD i 0 = (byteAt l i : Int) := octs_getD _ _ _ h

theorem drop_rest (l : List Bool) : (l.drop (8 * (l.length / 8))).length = l.length % 8 := by rw [List.length_drop]; omega

/-- the bytes of a list of bits have its bits, and then bits 0 -/
theorem unbits_pad (l : List Bool) : unbits (pad l) = l ++ List.replicate (8 * ((l.length + 7) / 8) - l.length) false := by
  have hpad : pad l = octs (l ++ List.replicate (8 * ((l.length + 7) / 8) - l.length) false) ((l.length + 7) / 8) := by
    unfold pad octs
    refine List.map_congr_left fun i hi => ?_
    have hi := List.mem_range.1 hi
    congr 1
    unfold byteAt
    by_cases h : 8 * i + 8 ≤ l.length
    · rw [List.drop_append_of_le_length (by omega), List.take_append_of_le_length (by rw [List.length_drop]; omega)]
    · rw [List.drop_append_of_le_length (by omega), val_take, val_take, val_append]
      generalize hk : (8 * ((l.length + 7) / 8) - l.length) = k
      have hz : val (List.replicate k false) = 0 := by
        clear hk
        induction k with
        | zero => rfl
        | succ k ih => simp [List.replicate_succ, val, ih]
      rw [hz, Nat.mul_zero, Nat.add_zero]
  rw [hpad, unbits_octs _ _ (by rw [List.length_append, List.length_replicate]; omega), List.take_of_length_le (by rw [List.length_append, List.length_replicate]; omega)]

end Bt
end Go.Proofs.Ytghahbododnafaa
namespace Go.Proofs.Ytghahbododnafaa
namespace Bt
theorem bitsOf_snoc (k : Nat) : ∀ n, bitsOf n (k + 1) = bitsOf n k ++ [n / 2 ^ k % 2 == 1] := by
  induction k with
  | zero => intro n; simp [bitsOf]
  | succ k ih =>
    intro n
    have e : bitsOf n (k + 1 + 1) = (n % 2 == 1) :: bitsOf (n / 2) (k + 1) := rfl
    rw [e, ih (n / 2), Nat.div_div_eq_div_mul, show 2 * 2 ^ k = 2 ^ (k + 1) from by rw [Nat.pow_succ, Nat.mul_comm]]
    rfl
end Bt
end Go.Proofs.Ytghahbododnafaa
