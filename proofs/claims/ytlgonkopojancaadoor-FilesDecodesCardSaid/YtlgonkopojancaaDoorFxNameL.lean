/- Names: plain. -/
import Derived.Test.YtlgonkopojancaaDoorFxLawP
namespace Go.Proofs.YtlgonkopojancaaDoor
open Go.RowKit

/-- the parts between bars -/
def parts : List UInt8 → List (List UInt8)
  | [] => [[]]
  | x :: xs => if x = 47 then [] :: parts xs else
    match parts xs with
    | [] => [[x]]
    | p :: ps => (x :: p) :: ps
theorem parts_ne : ∀ l, parts l ≠ []
  | [] => by simp [parts]
  | x :: xs => by
    unfold parts
    split
    · simp
    · split <;> simp
theorem parts_bar (xs : List UInt8) : parts (47 :: xs) = [] :: parts xs := by rw [parts, if_pos rfl]
theorem parts_other {x : UInt8} (h : x ≠ 47) {xs p : List UInt8} {ps : List (List UInt8)} (hp : parts xs = p :: ps) : parts (x :: xs) = (x :: p) :: ps := by rw [parts, if_neg h, hp]
theorem parts_split (a b : List UInt8) : parts (a ++ 47 :: b) = parts a ++ parts b := by
  induction a with
  | nil => rw [List.nil_append, parts_bar]; rfl
  | cons x a ih =>
    by_cases h : x = 47
    · subst h
      rw [List.cons_append, parts_bar, parts_bar, ih]
      rfl
    · rcases hp : parts a with _ | ⟨p, ps⟩
      · exact absurd hp (parts_ne a)
      · rw [parts_other h hp, List.cons_append]
        rw [hp, List.cons_append] at ih
        rw [parts_other h ih]
        rfl
theorem index_cons_other {x : UInt8} (h : x ≠ 47) (l : List UInt8) : Lib.index (x :: l) [47] = if Lib.index l [47] = -1 then -1 else Lib.index l [47] + 1 := by
  rw [Lib.index_one, Lib.index_one, Lib.indexByte]
  split
  · rename_i e; exact absurd (by simpa using e) h
  · split <;> simp_all
theorem splitK_parts : ∀ l : List UInt8, Lib.splitK [47] 0 (Lib.count l [47]) l = parts l
  | [] => rfl
  | x :: l => by
    have ih := splitK_parts l
    by_cases h : x = 47
    · subst h
      have hi : Lib.index (47 :: l) [47] = 0 := by rw [Lib.index_one, Lib.indexByte]; simp
      rw [Lib.count_cons_eq, Nat.add_comm, Lib.splitK, hi, parts_bar, ← ih]
      rfl
    · rw [Lib.count_cons_ne x 47 l h]
      rcases hk : Lib.count l [47] with _ | k
      · rw [hk] at ih
        have hp : parts l = [l] := ih.symm
        rw [parts_other h hp]
        rfl
      · rw [hk] at ih
        have hi := Lib.index_spec l [47]
        rcases hi with ⟨hm, _⟩ | ⟨i, hi, hil, _⟩
        · rw [Lib.count_miss hm] at hk; cases hk
        · have hne : ¬ Lib.index l [47] = -1 := by omega
          have hx : Lib.index (x :: l) [47] = ((i + 1 : Nat) : Int) := by rw [index_cons_other h, if_neg hne, hi]; rfl
          rw [Lib.splitK] at ih ⊢
          rw [hi] at ih
          rw [hx]
          have e1 : (((i : Nat) : Int) == -1) = false := by rw [beq_eq_false_iff_ne]; omega
          have e2 : (((i + 1 : Nat) : Int) == -1) = false := by rw [beq_eq_false_iff_ne]; omega
          rw [e1] at ih
          rw [e2]
          simp only [Bool.false_eq_true, if_false, Int.toNat_natCast, List.length_singleton, Nat.add_zero] at ih ⊢
          rw [parts_other h ih.symm]
          rfl
def badL (p : List UInt8) : Bool := p.isEmpty || p == [46] || p == [46, 46]
def nameL (l : List UInt8) : Bool := l.all okB && (decide (l.length ≤ 100) && !(parts l).any badL)
theorem name_L (s : ByteArray) : nameB s = nameL s.data.toList := by
  unfold nameB nameL
  have e : (Lib.splitB bar 0 (Lib.countB s bar) s).any badP = (parts s.data.toList).any badL := by
    rw [← splitK_parts]
    have := Lib.splitB_data bar 0 (Lib.countB s bar) s
    have e2 : Lib.splitK [47] 0 (Lib.count s.data.toList [47]) s.data.toList = Lib.splitK bar.data.toList 0 (Lib.countB s bar) s.data.toList := rfl
    rw [e2, ← this, List.any_map]
    congr 1
    funext p
    unfold badP badL
    simp only [Function.comp, ByteArray.toList_eq]
  rw [e]
  rfl
/-- the document's walk over a name: the part at hand, the rest -/
def nmL : List UInt8 → List UInt8 → Bool
  | last, [] => !badL last
  | last, c :: cs => okB c && (if c = 47 then !badL last && nmL [] cs else nmL (last ++ [c]) cs)
def hcons (last : List UInt8) : List (List UInt8) → List (List UInt8)
  | [] => [last]
  | p :: ps => (last ++ p) :: ps
theorem nmL_parts : ∀ (cs last : List UInt8), nmL last cs = (cs.all okB && !(hcons last (parts cs)).any badL)
  | [], last => by simp [nmL, parts, hcons]
  | c :: cs, last => by
    rw [nmL]
    rcases hp : parts cs with _ | ⟨p, ps⟩
    · exact absurd hp (parts_ne cs)
    · by_cases h : c = 47
      · subst h
        rw [if_pos rfl, nmL_parts cs [], parts_bar, hp]
        simp only [hcons, List.all_cons, List.any_cons, List.nil_append, List.append_nil]
        cases okB 47 <;> cases badL last <;> cases cs.all okB <;> cases badL p <;> cases ps.any badL <;> rfl
      · rw [if_neg h, nmL_parts cs (last ++ [c]), parts_other h hp, hp]
        simp only [hcons, List.all_cons, List.any_cons, List.append_assoc, List.singleton_append]
        cases okB c <;> cases cs.all okB <;> rfl
theorem name_doc (s : ByteArray) : nameB s = (decide (1 ≤ s.size) && (decide (s.size ≤ 100) && nmL [] s.data.toList)) := by
  rw [name_L, nmL_parts]
  unfold nameL
  have hs : s.data.toList.length = s.size := rfl
  rcases hp : parts s.data.toList with _ | ⟨p, ps⟩
  · exact absurd hp (parts_ne _)
  · simp only [hcons, List.nil_append]
    rw [hs]
    by_cases h : 1 ≤ s.size
    · rw [decide_eq_true h, Bool.true_and]
      cases s.data.toList.all okB <;> cases decide (s.size ≤ 100) <;> rfl
    · rw [decide_eq_false h, Bool.false_and]
      have : s.data.toList = [] := List.eq_nil_of_length_eq_zero (by omega)
      rw [this] at hp
      have : p = [] ∧ ps = [] := by simp [parts] at hp; exact hp
      rw [this.1, this.2]
      simp [badL]
end Go.Proofs.YtlgonkopojancaaDoor
