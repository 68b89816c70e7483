/- Decode: what it comes to, plain. -/
import Derived.Test.YtlgonkopojancaaDoorFxCatch
namespace Go.Proofs.YtlgonkopojancaaDoor
open Go.RowKit

def filesP : Nat → List Int → Option (List Fi × List Nat × List Int)
  | 0, xs => some ([], [], xs)
  | k + 1, xs => match fileP xs with
    | none => none
    | some (f, z, r) => match filesP k r with
      | none => none
      | some (fs, zs, r') => some (f :: fs, z :: zs, r')
def bodiesP : List Fi → List Nat → List Int → Option (List Fi × List Int)
  | [], _, xs => some ([], xs)
  | _ :: _, [], _ => none
  | f :: fs, z :: zs, xs => match cutP z xs with
    | none => none
    | some (b, r) => match bodiesP fs zs r with
      | none => none
      | some (gs, r') => some ({ f with body := b } :: gs, r')
def decP (xs : List Int) : Option (List Fi) :=
  match getN xs with
  | none => none
  | some (cnt, r) => if cnt ≤ 200 then (match filesP cnt r with
    | none => none
    | some (fs, zs, r') => match bodiesP fs zs r' with
      | none => none
      | some (gs, r'') => if r'' = [] ∧ adjB gs = true ∧ checkI gs = 0 then some gs else none) else none

/-- some files, and then those that are read -/
def addF (fs : List Fi) (zs : List Nat) : Option (List Fi × List Nat × List Int) → Option (List Fi × List Nat × List Int)
  | none => none
  | some (fs', zs', r) => some (fs ++ fs', zs ++ zs', r)
theorem filesP_step {fs : List Fi} {zs : List Nat} {k : Nat} {xs r : List Int} {f : Fi} {z : Nat} (h : fileP xs = some (f, z, r)) : addF fs zs (filesP (k + 1) xs) = addF (fs ++ [f]) (zs ++ [z]) (filesP k r) := by
  rw [filesP, h]
  simp only
  rcases filesP k r with _ | ⟨fs', zs', r'⟩
  · rfl
  · simp [addF]
theorem filesP_fail {fs : List Fi} {zs : List Nat} {k : Nat} {xs : List Int} (h : fileP xs = none) : addF fs zs (filesP (k + 1) xs) = none := by
  rw [filesP, h]
  rfl
def addB (gs : List Fi) : Option (List Fi × List Int) → Option (List Fi × List Int)
  | none => none
  | some (gs', r) => some (gs ++ gs', r)
theorem bodiesP_step {gs fs : List Fi} {zs : List Nat} {xs b r : List Int} {f : Fi} {z : Nat} (h : cutP z xs = some (b, r)) : addB gs (bodiesP (f :: fs) (z :: zs) xs) = addB (gs ++ [{ f with body := b }]) (bodiesP fs zs r) := by
  rw [bodiesP, h]
  simp only
  rcases bodiesP fs zs r with _ | ⟨gs', r'⟩
  · rfl
  · simp [addB]
theorem bodiesP_fail {gs fs : List Fi} {zs : List Nat} {xs : List Int} {f : Fi} {z : Nat} (h : cutP z xs = none) : addB gs (bodiesP (f :: fs) (z :: zs) xs) = none := by
  rw [bodiesP, h]
  rfl
theorem getN_le {xs r : List Int} {N : Nat} (hb : Bts xs) (h : getN xs = some (N, r)) : r.length ≤ xs.length := by
  obtain ⟨_, rfl⟩ := (getN_spec hb N r).1 h
  simp
theorem fileP_le {xs r : List Int} {f : Fi} {z : Nat} (hb : Bts xs) (h : fileP xs = some (f, z, r)) : r.length ≤ xs.length := by
  unfold fileP at h
  rcases h1 : getN xs with _ | ⟨ln, r1⟩
  · rw [h1] at h; cases h
  · rw [h1] at h
    simp only at h
    have b1 := (getN_bts hb h1).1
    have l1 := getN_le hb h1
    rcases h2 : cutP ln r1 with _ | ⟨nm, r2⟩
    · rw [h2] at h; cases h
    · rw [h2] at h
      simp only at h
      have b2 : Bts r2 ∧ r2.length ≤ r1.length := by
        unfold cutP at h2
        split at h2
        · injection h2 with h2
          injection h2 with _ h2
          subst h2
          exact ⟨fun x hx => b1 x (List.mem_of_mem_drop hx), by simp⟩
        · cases h2
      rcases h3 : getN r2 with _ | ⟨mode, r3⟩
      · rw [h3] at h; cases h
      · rw [h3] at h
        simp only at h
        have b3 := (getN_bts b2.1 h3).1
        have l3 := getN_le b2.1 h3
        split at h
        · rcases h4 : getN r3 with _ | ⟨t, r4⟩
          · rw [h4] at h; cases h
          · rw [h4] at h
            simp only at h
            have b4 := (getN_bts b3 h4).1
            have l4 := getN_le b3 h4
            rcases h5 : getN r4 with _ | ⟨sz, r5⟩
            · rw [h5] at h; cases h
            · rw [h5] at h
              simp only at h
              have l5 := getN_le b4 h5
              injection h with h
              injection h with _ h
              injection h with _ h
              subst h
              omega
        · cases h
theorem fileP_bts {xs r : List Int} {f : Fi} {z : Nat} (hb : Bts xs) (h : fileP xs = some (f, z, r)) : Bts r := by
  unfold fileP at h
  rcases h1 : getN xs with _ | ⟨ln, r1⟩
  · rw [h1] at h; cases h
  · rw [h1] at h
    simp only at h
    have b1 := (getN_bts hb h1).1
    rcases h2 : cutP ln r1 with _ | ⟨nm, r2⟩
    · rw [h2] at h; cases h
    · rw [h2] at h
      simp only at h
      have b2 : Bts r2 := by
        unfold cutP at h2
        split at h2
        · injection h2 with h2
          injection h2 with _ h2
          subst h2
          exact fun x hx => b1 x (List.mem_of_mem_drop hx)
        · cases h2
      rcases h3 : getN r2 with _ | ⟨mode, r3⟩
      · rw [h3] at h; cases h
      · rw [h3] at h
        simp only at h
        have b3 := (getN_bts b2 h3).1
        split at h
        · rcases h4 : getN r3 with _ | ⟨t, r4⟩
          · rw [h4] at h; cases h
          · rw [h4] at h
            simp only at h
            have b4 := (getN_bts b3 h4).1
            rcases h5 : getN r4 with _ | ⟨sz, r5⟩
            · rw [h5] at h; cases h
            · rw [h5] at h
              simp only at h
              injection h with h
              injection h with _ h
              injection h with _ h
              subst h
              exact (getN_bts b4 h5).1
        · cases h
theorem cutP_bts {z : Nat} {xs b r : List Int} (hb : Bts xs) (h : cutP z xs = some (b, r)) : Bts b ∧ Bts r ∧ b.length = z := by
  unfold cutP at h
  split at h
  · rename_i hz
    injection h with h
    injection h with h1 h2
    subst h1; subst h2
    exact ⟨fun x hx => hb x (List.mem_of_mem_take hx), fun x hx => hb x (List.mem_of_mem_drop hx), by rw [List.length_take]; omega⟩
  · cases h
/-- a file as Decode may read it, of N bytes -/
structure FileIn (N : Nat) (f : Fi) : Prop where
  ok : FOk f
  name : f.name.size ≤ N
  body : f.body.length ≤ N
  mode : f.mode ≤ 4095
theorem size_strOf (xs : List Int) : (strOf xs).size = xs.length := by unfold strOf; simp [ByteArray.size]
theorem unzig_range {t : Nat} (h : t < 18446744073709551616) : -9223372036854775808 ≤ unzig t ∧ unzig t ≤ 9223372036854775807 := by
  unfold unzig; split <;> omega
theorem fileP_in {N : Nat} {xs r : List Int} {f : Fi} {z : Nat} (hb : Bts xs) (hN : xs.length ≤ N) (h6 : N ≤ 9223372036854775807) (h : fileP xs = some (f, z, r)) : FileIn N f := by
  unfold fileP at h
  rcases h1 : getN xs with _ | ⟨ln, r1⟩
  · rw [h1] at h; cases h
  · rw [h1] at h
    simp only at h
    have b1 := (getN_bts hb h1).1
    have l1 := getN_le hb h1
    rcases h2 : cutP ln r1 with _ | ⟨nm, r2⟩
    · rw [h2] at h; cases h
    · rw [h2] at h
      simp only at h
      have b2 : Bts r2 ∧ nm.length ≤ r1.length := by
        unfold cutP at h2
        split at h2
        · injection h2 with h2
          injection h2 with h3 h2
          subst h2; subst h3
          exact ⟨fun x hx => b1 x (List.mem_of_mem_drop hx), by rw [List.length_take]; omega⟩
        · cases h2
      rcases h3 : getN r2 with _ | ⟨mode, r3⟩
      · rw [h3] at h; cases h
      · rw [h3] at h
        simp only at h
        have b3 := (getN_bts b2.1 h3).1
        split at h
        · rename_i hm
          rcases h4 : getN r3 with _ | ⟨t, r4⟩
          · rw [h4] at h; cases h
          · rw [h4] at h
            simp only at h
            have b4 := getN_bts b3 h4
            rcases h5 : getN r4 with _ | ⟨sz, r5⟩
            · rw [h5] at h; cases h
            · rw [h5] at h
              simp only at h
              injection h with h
              injection h with h6' h
              subst h6'
              have hs : (strOf nm).size ≤ N := by rw [size_strOf]; omega
              exact ⟨⟨by show (strOf nm).size ≤ _; omega, ⟨by show (0 : Int) ≤ (mode : Int); omega, by show (mode : Int) < _; omega⟩, unzig_range b4.2, fun x hx => by simp at hx⟩, hs, by simp, by show (mode : Int) ≤ _; omega⟩
        · cases h
theorem filesP_in {N : Nat} (h6 : N ≤ 9223372036854775807) : ∀ (k : Nat) (xs : List Int) (fs : List Fi) (zs : List Nat) (r : List Int), Bts xs → xs.length ≤ N → filesP k xs = some (fs, zs, r) → (∀ f ∈ fs, FileIn N f) ∧ Bts r ∧ r.length ≤ N
  | 0, xs, fs, zs, r, hb, hN, h => by
    rw [filesP] at h
    injection h with h
    injection h with h1 h
    injection h with h2 h
    subst h1; subst h
    exact ⟨fun f hf => by simp at hf, hb, hN⟩
  | k + 1, xs, fs, zs, r, hb, hN, h => by
    rw [filesP] at h
    rcases h1 : fileP xs with _ | ⟨f, z, r1⟩
    · rw [h1] at h; cases h
    · rw [h1] at h
      simp only at h
      rcases h2 : filesP k r1 with _ | ⟨fs', zs', r'⟩
      · rw [h2] at h; cases h
      · rw [h2] at h
        simp only at h
        injection h with h
        injection h with h3 h
        injection h with h4 h
        have hi := filesP_in h6 k r1 fs' zs' r' (fileP_bts hb h1) (Nat.le_trans (fileP_le hb h1) hN) h2
        subst h3; subst h
        refine ⟨fun g hg => ?_, hi.2⟩
        rcases List.mem_cons.1 hg with rfl | hg
        · exact fileP_in hb hN h6 h1
        · exact hi.1 g hg
theorem bodiesP_in {N : Nat} : ∀ (fs : List Fi) (zs : List Nat) (xs : List Int) (gs : List Fi) (r : List Int), Bts xs → xs.length ≤ N → (∀ f ∈ fs, FileIn N f) → bodiesP fs zs xs = some (gs, r) → ∀ g ∈ gs, FileIn N g
  | [], zs, xs, gs, r, _, _, _, h => by
    rw [bodiesP] at h
    injection h with h
    injection h with h1 h
    subst h1
    exact fun g hg => by simp at hg
  | f :: fs, [], xs, gs, r, _, _, _, h => by rw [bodiesP] at h; cases h
  | f :: fs, z :: zs, xs, gs, r, hb, hN, hf, h => by
    rw [bodiesP] at h
    rcases h1 : cutP z xs with _ | ⟨b, r1⟩
    · rw [h1] at h; cases h
    · rw [h1] at h
      simp only at h
      rcases h2 : bodiesP fs zs r1 with _ | ⟨gs', r'⟩
      · rw [h2] at h; cases h
      · rw [h2] at h
        simp only at h
        injection h with h
        injection h with h3 h
        subst h3
        have hc := cutP_bts hb h1
        have hl : b.length ≤ xs.length ∧ r1.length ≤ xs.length := by
          unfold cutP at h1
          split at h1
          · injection h1 with h1
            injection h1 with h4 h5
            subst h4; subst h5
            exact ⟨by rw [List.length_take]; omega, by rw [List.length_drop]; omega⟩
          · cases h1
        have h0 := hf f (by simp)
        intro g hg
        rcases List.mem_cons.1 hg with rfl | hg
        · exact ⟨⟨h0.ok.name, h0.ok.mode, h0.ok.time, hc.1⟩, h0.name, by show b.length ≤ N; omega, h0.mode⟩
        · exact bodiesP_in fs zs r1 gs' r' hc.2.1 (by omega) (fun g hg => hf g (by simp [hg])) h2 g hg
end Go.Proofs.YtlgonkopojancaaDoor
