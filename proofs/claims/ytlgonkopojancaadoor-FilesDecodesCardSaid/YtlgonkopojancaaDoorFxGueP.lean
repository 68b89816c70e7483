/- The reference's guess, in plain lists. -/
import Derived.Test.YtlgonkopojancaaDoorFxTold
namespace Go.Proofs.YtlgonkopojancaaDoor
open Go.RowKit

/-- a number, seven bits a byte, ten bytes at most; and how many they were -/
def getR : Nat → Nat → Nat → List Int → Option (Nat × Nat)
  | 0, _, _, _ => none
  | _ + 1, _, _, [] => none
  | k + 1, i, a, y :: ys => if y < 128 then some ((a + y.toNat % 128 * 2 ^ (7 * i) % 18446744073709551616) % 18446744073709551616, i + 1) else getR k (i + 1) ((a + y.toNat % 128 * 2 ^ (7 * i) % 18446744073709551616) % 18446744073709551616) ys
/-- a number at a place, and where it ends -/
def getP (xs : List Int) (t : Nat) : Nat × Nat := match getR 10 0 0 (xs.drop t) with
  | some (n, k) => (n, t + k)
  | none => (0, xs.length)
theorem getR_le : ∀ (k i a : Nat) (ys : List Int) (n j : Nat), getR k i a ys = some (n, j) → n < 18446744073709551616 ∧ i < j ∧ j ≤ i + ys.length
  | 0, _, _, _, _, _, h => by cases h
  | _ + 1, _, _, [], _, _, h => by cases h
  | k + 1, i, a, y :: ys, n, j, h => by
    rw [getR] at h
    split at h
    · injection h with h
      injection h with h1 h2
      subst h1; subst h2
      refine ⟨Nat.mod_lt _ (by decide), by omega, by rw [List.length_cons]; omega⟩
    · obtain ⟨h1, h2, h3⟩ := getR_le k (i + 1) _ ys n j h
      exact ⟨h1, by omega, by rw [List.length_cons]; omega⟩
theorem getP_le {xs : List Int} {t : Nat} (h : t ≤ xs.length) : (getP xs t).1 < 18446744073709551616 ∧ (getP xs t).2 ≤ xs.length ∧ t ≤ (getP xs t).2 := by
  unfold getP
  rcases hq : getR 10 0 0 (xs.drop t) with _ | ⟨n, k⟩
  · exact ⟨(by decide : (0 : Nat) < 18446744073709551616), Nat.le_refl _, h⟩
  · obtain ⟨h1, h2, h3⟩ := getR_le 10 0 0 _ n k hq
    rw [List.length_drop] at h3
    exact ⟨h1, by show t + k ≤ _; omega, Nat.le_add_right _ _⟩
theorem getR_numb : ∀ (m i a k : Nat) (ys : List Int), a + m * 2 ^ (7 * i) < 18446744073709551616 → (numb m).length ≤ k → getR k i a (numb m ++ ys) = some (a + m * 2 ^ (7 * i), i + (numb m).length) := by
  intro m
  induction m using Nat.strongRecOn with
  | ind m ih =>
    intro i a k ys ha hk
    by_cases hm : m < 128
    · rw [numb_small hm] at hk ⊢
      obtain ⟨k, rfl⟩ : ∃ j, k = j + 1 := ⟨k - 1, by simp at hk; omega⟩
      have e : m % 128 = m := Nat.mod_eq_of_lt hm
      rw [List.singleton_append, getR, if_pos (by omega), Int.toNat_natCast, e]
      have h1 : m * 2 ^ (7 * i) < 18446744073709551616 := Nat.lt_of_le_of_lt (Nat.le_add_left _ _) ha
      rw [Nat.mod_eq_of_lt h1, Nat.mod_eq_of_lt ha]
      rfl
    · rw [numb_big hm] at hk ⊢
      obtain ⟨k, rfl⟩ : ∃ j, k = j + 1 := ⟨k - 1, by simp at hk; omega⟩
      have e2 : 2 ^ (7 * (i + 1)) = 128 * 2 ^ (7 * i) := by
        rw [show 7 * (i + 1) = 7 * i + 7 by omega, Nat.pow_add, Nat.mul_comm]
      have e3 : m * 2 ^ (7 * i) = m % 128 * 2 ^ (7 * i) + m / 128 * 2 ^ (7 * (i + 1)) := by
        rw [e2, ← Nat.mul_assoc, ← Nat.add_mul]
        congr 1
        omega
      have hc : (m % 128 + 128) % 128 = m % 128 := by omega
      rw [List.cons_append, getR, if_neg (by omega), Int.toNat_natCast, hc]
      have h1 : a + m % 128 * 2 ^ (7 * i) < 18446744073709551616 := by
        have := Nat.zero_le (m / 128 * 2 ^ (7 * (i + 1)))
        omega
      have h2 : m % 128 * 2 ^ (7 * i) < 18446744073709551616 := Nat.lt_of_le_of_lt (Nat.le_add_left _ _) h1
      rw [Nat.mod_eq_of_lt h2, Nat.mod_eq_of_lt h1]
      rw [ih (m / 128) (by omega) (i + 1) _ k ys (by omega) (by rw [List.length_cons] at hk; omega), List.length_cons]
      congr 1
      congr 1 <;> omega
/-- a number that was written is got -/
theorem getP_numb {xs ys : List Int} {t n : Nat} (h : xs.drop t = numb n ++ ys) (hn : n < 18446744073709551616) : getP xs t = (n, t + (numb n).length) ∧ xs.drop (t + (numb n).length) = ys := by
  constructor
  · unfold getP
    rw [h, getR_numb n 0 0 10 ys (by simpa using hn) (numb64 hn)]
    simp
  · rw [← List.drop_drop, h, List.drop_left]
/-- one file that the bytes may tell of: its body is still to come -/
def gStep (xs : List Int) (t : Nat) : Fi × Nat × Nat :=
  let a := getP xs t
  let nm := (xs.drop a.2).take a.1
  let b := getP xs (a.2 + nm.length)
  let c := getP xs b.2
  let d := getP xs c.2
  (⟨strOf nm, (b.1 % 4294967296 : Nat), unzig c.1, []⟩, d.1, d.2)
def guessH (xs : List Int) : Nat → Nat → List Fi × List Nat × Nat
  | 0, t => ([], [], t)
  | k + 1, t => if t < xs.length then (match gStep xs t, guessH xs k (gStep xs t).2.2 with | s, r => (s.1 :: r.1, s.2.1 :: r.2.1, r.2.2)) else ([], [], t)
def guessB (xs : List Int) : List Fi → List Nat → Nat → List Fi
  | f :: fs, z :: zs, t => { f with body := (xs.drop t).take z } :: guessB xs fs zs (t + ((xs.drop t).take z).length)
  | _, _, _ => []
def guessP (xs : List Int) : List Fi := match guessH xs (min (getP xs 0).1 201) (getP xs 0).2 with | r => guessB xs r.1 r.2.1 r.2.2
theorem take_le {xs : List Int} {t n : Nat} (h : t ≤ xs.length) : t + ((xs.drop t).take n).length ≤ xs.length := by
  rw [List.length_take, List.length_drop]; omega
theorem gStep_le {xs : List Int} {t : Nat} (h : t ≤ xs.length) : (gStep xs t).2.1 < 18446744073709551616 ∧ (gStep xs t).2.2 ≤ xs.length := by
  have h1 := getP_le h
  have h2 := getP_le (take_le (n := (getP xs t).1) h1.2.1)
  have h3 := getP_le h2.2.1
  have h4 := getP_le h3.2.1
  exact ⟨h4.1, h4.2.1⟩
theorem unzig_zig' (f : Fi) : unzig (zig f.time) = f.time := unzig_zig _
/-- what Encode wrote of a file is read as it was -/
theorem gStep_head {xs ys : List Int} {t : Nat} {f : Fi} (h : xs.drop t = headB f ++ ys) (he : FEnc f) : gStep xs t = (f.bare, f.body.length, t + (headB f).length) ∧ xs.drop (t + (headB f).length) = ys := by
  have hm := he.ok.mode
  unfold headB at h
  simp only [List.append_assoc] at h
  obtain ⟨a1, a2⟩ := getP_numb h he.name
  have hn : (xs.drop (t + (numb f.name.size).length)).take f.name.size = nums f.name := by
    rw [a2, ← length_nums f.name, List.take_left]
  have a3 : xs.drop (t + (numb f.name.size).length + (nums f.name).length) = numb f.mode.toNat ++ (numb (zig f.time) ++ (numb f.body.length ++ ys)) := by
    rw [← List.drop_drop, a2, List.drop_left]
  obtain ⟨b1, b2⟩ := getP_numb a3 (by omega)
  obtain ⟨c1, c2⟩ := getP_numb b2 (zig_lt he.ok.time.1 he.ok.time.2)
  obtain ⟨d1, d2⟩ := getP_numb c2 he.body
  have hl : t + (headB f).length = t + (numb f.name.size).length + (nums f.name).length + (numb f.mode.toNat).length + (numb (zig f.time)).length + (numb f.body.length).length := by
    unfold headB
    simp only [List.length_append]
    omega
  refine ⟨?_, by rw [hl]; exact d2⟩
  rw [hl]
  unfold gStep
  simp only [a1, hn, b1, c1, d1]
  refine Prod.ext ?_ rfl
  show (⟨strOf (nums f.name), ((f.mode.toNat % 4294967296 : Nat) : Int), unzig (zig f.time), []⟩ : Fi) = f.bare
  rw [strOf_nums, unzig_zig]
  have : ((f.mode.toNat % 4294967296 : Nat) : Int) = f.mode := by omega
  rw [this]
  rfl
theorem headB_pos (f : Fi) : 0 < (headB f).length := by
  have := numb_pos f.name.size
  unfold headB
  simp only [List.length_append]
  omega
theorem guessH_heads {xs ys : List Int} : ∀ (fs : List Fi) (t : Nat), xs.drop t = headsB fs ++ ys → (∀ f ∈ fs, FEnc f) → guessH xs fs.length t = (fs.map Fi.bare, fs.map (fun f => f.body.length), t + (headsB fs).length) ∧ xs.drop (t + (headsB fs).length) = ys
  | [], t, h, _ => by
    refine ⟨rfl, ?_⟩
    simpa [headsB] using h
  | f :: fs, t, h, he => by
    have e : headsB (f :: fs) = headB f ++ headsB fs := by simp [headsB]
    rw [e, List.append_assoc] at h
    obtain ⟨s1, s2⟩ := gStep_head h (he f (by simp))
    obtain ⟨r1, r2⟩ := guessH_heads fs (t + (headB f).length) s2 (fun g hg => he g (by simp [hg]))
    have ht : t < xs.length := by
      have h1 := congrArg List.length h
      have h2 := headB_pos f
      rw [List.length_drop, List.length_append] at h1
      omega
    rw [e, List.length_append, ← Nat.add_assoc]
    refine ⟨?_, r2⟩
    rw [List.length_cons, guessH, if_pos ht, s1, r1]
    rfl
theorem guessB_bodies {xs : List Int} : ∀ (fs : List Fi) (t : Nat), xs.drop t = bodiesB fs → guessB xs (fs.map Fi.bare) (fs.map (fun f => f.body.length)) t = fs
  | [], t, _ => rfl
  | f :: fs, t, h => by
    have e : bodiesB (f :: fs) = f.body ++ bodiesB fs := by simp [bodiesB]
    rw [e] at h
    have hb : (xs.drop t).take f.body.length = f.body := by rw [h, List.take_left]
    rw [List.map_cons, List.map_cons, guessB, hb]
    rw [guessB_bodies fs (t + f.body.length) (by rw [← List.drop_drop, h, List.drop_left])]
    rfl
/-- files that were encoded are guessed -/
theorem guess_enc {gs : List Fi} (he : ∀ f ∈ gs, FEnc f) (hl : gs.length ≤ 200) : guessP (encB gs) = gs := by
  have h0 : (encB gs).drop 0 = numb gs.length ++ (headsB gs ++ bodiesB gs) := by unfold encB; rw [List.drop_zero, List.append_assoc]
  obtain ⟨a1, a2⟩ := getP_numb h0 (by omega)
  obtain ⟨b1, b2⟩ := guessH_heads gs _ a2 he
  unfold guessP
  rw [a1]
  show (match guessH (encB gs) (min gs.length 201) (0 + (numb gs.length).length) with | r => guessB (encB gs) r.1 r.2.1 r.2.2) = gs
  rw [Nat.min_eq_left (by omega), b1]
  exact guessB_bodies gs _ b2
/-- what Decode takes not, is no guess's bytes -/
theorem dec_no {xs : List Int} {hs gs : List Fi} (hd : decP xs = none) (hc : checkI hs = 0) (hs' : StableOf Fi.name hs gs) (hok : ∀ f ∈ hs, FOk f) (hb : ∀ f ∈ hs, f.body.length ≤ 1000000) (hn : ∀ f ∈ hs, f.name.size ≤ 1000000) : encB gs ≠ xs := by
  intro e
  have hp := stable_perm hs'
  have he : ∀ f ∈ gs, FEnc f := fun f hf => by
    have hf' := hp.mem_iff.1 hf
    exact ⟨hok f hf', by have := hn f hf'; omega, by have := hb f hf'; omega, (check_parts hc).2.2.2.1 f hf'⟩
  have hc' : checkI gs = 0 := (checkI_stable hs').trans hc
  have := decP_enc (ys := []) he (check_parts hc').2.2.1 bts_nil
  rw [List.append_nil, if_pos ⟨rfl, (adj_srt gs).2 hs'.1, hc'⟩, e, hd] at this
  cases this
end Go.Proofs.YtlgonkopojancaaDoor
