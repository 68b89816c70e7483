/- What Decode comes to is what Encode wrote: plain. -/
import Derived.Test.YtlgonkopojancaaDoorFxDec
namespace Go.Proofs.YtlgonkopojancaaDoor
open Go.RowKit

theorem zig_unzig {t : Nat} : zig (unzig t) = t := by
  unfold unzig zig
  split
  · rw [if_pos (by omega)]; omega
  · rw [if_neg (by omega)]; omega
theorem unzig_zig (t : Int) : unzig (zig t) = t := by
  unfold zig
  split
  · unfold unzig; rw [if_pos (by omega)]; omega
  · unfold unzig; rw [if_neg (by omega)]; omega
theorem nums_bts (s : ByteArray) : Bts (nums s) := by
  intro x hx
  unfold nums at hx
  obtain ⟨b, _, rfl⟩ := List.mem_map.1 hx
  have := b.toNat_lt
  omega
theorem strOf_nums (s : ByteArray) : strOf (nums s) = s := by
  refine bytes_ext _ _ ?_
  unfold strOf nums
  simp only [List.map_map]
  have : ((fun x : Int => x.toNat.toUInt8) ∘ fun b : UInt8 => (b.toNat : Int)) = id := by
    funext b; simp
  rw [this, List.map_id]
theorem nums_strOf {xs : List Int} (h : Bts xs) : nums (strOf xs) = xs := by
  unfold nums strOf
  simp only [List.map_map]
  conv => rhs; rw [← List.map_id xs]
  refine List.map_congr_left fun x hx => ?_
  have := h x hx
  simp
  omega
/-- a file as it may be encoded -/
structure FEnc (f : Fi) : Prop where
  ok : FOk f
  name : f.name.size < 18446744073709551616
  body : f.body.length < 18446744073709551616
  mode : f.mode ≤ 4095
theorem bts_app {xs ys : List Int} (h : Bts xs) (g : Bts ys) : Bts (xs ++ ys) := fun x hx => (List.mem_append.1 hx).elim (h x) (g x)
theorem bts_nil : Bts [] := fun x hx => by simp at hx
theorem getN_numb {n : Nat} {ys : List Int} (h : n < 18446744073709551616) (hb : Bts ys) : getN (numb n ++ ys) = some (n, ys) := (getN_spec (bts_app (numb_bts n) hb) n ys).2 ⟨h, rfl⟩
theorem cutP_app {xs ys : List Int} {n : Nat} (h : xs.length = n) : cutP n (xs ++ ys) = some (xs, ys) := by
  subst h
  unfold cutP
  rw [if_pos (by simp)]
  simp
def headZ (f : Fi) (z : Nat) : List Int := numb f.name.size ++ (nums f.name ++ (numb f.mode.toNat ++ (numb (zig f.time) ++ numb z)))
theorem headB_Z (f : Fi) : headB f = headZ f f.body.length := by unfold headB headZ; simp only [List.append_assoc]
theorem headZ_bts (f : Fi) (z : Nat) : Bts (headZ f z) := bts_app (numb_bts _) (bts_app (nums_bts _) (bts_app (numb_bts _) (bts_app (numb_bts _) (numb_bts _))))
theorem fileP_head {f : Fi} {z : Nat} {ys : List Int} (h : FEnc f) (hz : z < 18446744073709551616) (hb : Bts ys) : fileP (headZ f z ++ ys) = some (f.bare, z, ys) := by
  have hm := h.ok.mode
  have hm2 := h.mode
  have b4 := bts_app (numb_bts z) hb
  have b3 := bts_app (numb_bts (zig f.time)) b4
  have b2 := bts_app (numb_bts f.mode.toNat) b3
  have b1 := bts_app (nums_bts f.name) b2
  unfold fileP headZ
  simp only [List.append_assoc]
  rw [getN_numb h.name b1]
  simp only
  rw [cutP_app (length_nums _)]
  simp only
  rw [getN_numb (by omega) b3]
  simp only
  rw [if_pos (by omega), getN_numb (zig_lt h.ok.time.1 h.ok.time.2) b4]
  simp only
  rw [getN_numb hz hb]
  simp only
  rw [strOf_nums, unzig_zig]
  have e : ((f.mode.toNat : Nat) : Int) = f.mode := by omega
  rw [e]
  rfl
theorem fileP_inv {xs r : List Int} {f : Fi} {z : Nat} (hb : Bts xs) (h : fileP xs = some (f, z, r)) : xs = headZ f z ++ r ∧ f.body = [] ∧ z < 18446744073709551616 := by
  unfold fileP at h
  rcases h1 : getN xs with _ | ⟨ln, r1⟩
  · rw [h1] at h; cases h
  · rw [h1] at h
    simp only at h
    obtain ⟨l1, e1⟩ := (getN_spec hb ln r1).1 h1
    have b1 := (getN_bts hb h1).1
    rcases h2 : cutP ln r1 with _ | ⟨nm, r2⟩
    · rw [h2] at h; cases h
    · rw [h2] at h
      simp only at h
      have c2 := cutP_bts b1 h2
      have e2 : r1 = nm ++ r2 := by
        unfold cutP at h2
        split at h2
        · injection h2 with h2
          injection h2 with h3 h2
          rw [← h3, ← h2, List.take_append_drop]
        · cases h2
      rcases h3 : getN r2 with _ | ⟨mode, r3⟩
      · rw [h3] at h; cases h
      · rw [h3] at h
        simp only at h
        obtain ⟨l3, e3⟩ := (getN_spec c2.2.1 mode r3).1 h3
        have b3 := (getN_bts c2.2.1 h3).1
        split at h
        · rcases h4 : getN r3 with _ | ⟨t, r4⟩
          · rw [h4] at h; cases h
          · rw [h4] at h
            simp only at h
            obtain ⟨l4, e4⟩ := (getN_spec b3 t r4).1 h4
            have b4 := (getN_bts b3 h4).1
            rcases h5 : getN r4 with _ | ⟨sz, r5⟩
            · rw [h5] at h; cases h
            · rw [h5] at h
              simp only at h
              obtain ⟨l5, e5⟩ := (getN_spec b4 sz r5).1 h5
              injection h with h
              injection h with h6 h
              injection h with h7 h
              subst h6; subst h7; subst h
              refine ⟨?_, rfl, l5⟩
              unfold headZ
              simp only [List.append_assoc]
              rw [nums_strOf c2.1, size_strOf, c2.2.2, zig_unzig, Int.toNat_natCast, ← e5, ← e4, ← e3, ← e2, ← e1]
        · cases h

def headsZ : List Fi → List Nat → List Int
  | f :: fs, z :: zs => headZ f z ++ headsZ fs zs
  | _, _ => []
theorem headsZ_bts : ∀ (fs : List Fi) (zs : List Nat), Bts (headsZ fs zs)
  | [], _ => by unfold headsZ; exact bts_nil
  | _ :: _, [] => by unfold headsZ; exact bts_nil
  | f :: fs, z :: zs => by unfold headsZ; exact bts_app (headZ_bts f z) (headsZ_bts fs zs)
theorem headsB_Z : ∀ fs : List Fi, headsB fs = headsZ fs (fs.map fun f => f.body.length)
  | [] => rfl
  | f :: fs => by
    rw [List.map_cons, headsZ, ← headB_Z, ← headsB_Z fs]
    simp [headsB]
theorem filesP_heads : ∀ (fs : List Fi) (ys : List Int), (∀ f ∈ fs, FEnc f) → Bts ys → filesP fs.length (headsB fs ++ ys) = some (fs.map Fi.bare, fs.map (fun f => f.body.length), ys)
  | [], ys, _, _ => rfl
  | f :: fs, ys, h, hb => by
    have e : headsB (f :: fs) ++ ys = headZ f f.body.length ++ (headsB fs ++ ys) := by
      rw [← List.append_assoc, ← headB_Z]
      simp [headsB]
    have hb2 : Bts (headsB fs ++ ys) := by rw [headsB_Z]; exact bts_app (headsZ_bts _ _) hb
    rw [List.length_cons, filesP, e, fileP_head (h f (by simp)) (h f (by simp)).body hb2]
    simp only
    rw [filesP_heads fs ys (fun g hg => h g (by simp [hg])) hb]
    rfl
theorem bodiesP_bodies : ∀ (fs : List Fi) (ys : List Int), bodiesP (fs.map Fi.bare) (fs.map (fun f => f.body.length)) (bodiesB fs ++ ys) = some (fs, ys)
  | [], ys => rfl
  | f :: fs, ys => by
    have e : bodiesB (f :: fs) ++ ys = f.body ++ (bodiesB fs ++ ys) := by simp [bodiesB]
    rw [List.map_cons, List.map_cons, bodiesP, e, cutP_app rfl]
    simp only
    rw [bodiesP_bodies fs ys]
    rfl
theorem bodiesB_bts {fs : List Fi} (h : ∀ f ∈ fs, FEnc f) : Bts (bodiesB fs) := by
  intro x hx
  unfold bodiesB at hx
  obtain ⟨f, hf, hx⟩ := List.mem_flatMap.1 hx
  exact (h f hf).ok.body x hx
theorem encB_bts {fs : List Fi} (h : ∀ f ∈ fs, FEnc f) : Bts (encB fs) := by
  unfold encB
  rw [headsB_Z]
  exact bts_app (bts_app (numb_bts _) (headsZ_bts _ _)) (bodiesB_bts h)
/-- Decode of what Encode wrote, and of more -/
theorem decP_enc {fs : List Fi} {ys : List Int} (h : ∀ f ∈ fs, FEnc f) (hl : fs.length ≤ 200) (hb : Bts ys) : decP (encB fs ++ ys) = if ys = [] ∧ adjB fs = true ∧ checkI fs = 0 then some fs else none := by
  have b2 : Bts (bodiesB fs ++ ys) := bts_app (bodiesB_bts h) hb
  have b1 : Bts (headsB fs ++ (bodiesB fs ++ ys)) := by rw [headsB_Z]; exact bts_app (headsZ_bts _ _) b2
  unfold decP encB
  simp only [List.append_assoc]
  rw [getN_numb (by omega) b1]
  simp only
  rw [if_pos hl, filesP_heads fs _ h b2]
  simp only
  rw [bodiesP_bodies]
theorem filesP_inv : ∀ (k : Nat) (xs : List Int) (fs : List Fi) (zs : List Nat) (r : List Int), Bts xs → filesP k xs = some (fs, zs, r) → xs = headsZ fs zs ++ r ∧ fs.length = k ∧ zs.length = k ∧ (∀ f ∈ fs, f.body = [])
  | 0, xs, fs, zs, r, hb, h => by
    rw [filesP] at h
    injection h with h
    injection h with h1 h
    injection h with h2 h
    subst h1; subst h2; subst h
    exact ⟨by simp [headsZ], rfl, rfl, fun f hf => by simp at hf⟩
  | k + 1, xs, fs, zs, r, hb, h => by
    rw [filesP] at h
    rcases h1 : fileP xs with _ | ⟨f, z, r1⟩
    · rw [h1] at h; cases h
    · rw [h1] at h
      simp only at h
      rcases h2 : filesP k r1 with _ | ⟨fs', zs', r'⟩
      · rw [h2] at h; cases h
      · rw [h2] at h
        simp only at h
        injection h with h
        injection h with h3 h
        injection h with h4 h
        subst h3; subst h4; subst h
        obtain ⟨e, hbd, _⟩ := fileP_inv hb h1
        obtain ⟨e2, l1, l2, hbs⟩ := filesP_inv k r1 fs' zs' r' (fileP_bts hb h1) h2
        refine ⟨by rw [headsZ, e, e2]; simp, by simp [l1], by simp [l2], fun g hg => ?_⟩
        rcases List.mem_cons.1 hg with rfl | hg
        · exact hbd
        · exact hbs g hg
theorem bodiesP_inv : ∀ (fs : List Fi) (zs : List Nat) (xs : List Int) (gs : List Fi) (r : List Int), Bts xs → fs.length = zs.length → (∀ f ∈ fs, f.body = []) → bodiesP fs zs xs = some (gs, r) → xs = bodiesB gs ++ r ∧ gs.map Fi.bare = fs ∧ gs.map (fun f => f.body.length) = zs
  | [], zs, xs, gs, r, hb, hl, _, h => by
    rw [bodiesP] at h
    injection h with h
    injection h with h1 h
    subst h1; subst h
    have : zs = [] := List.eq_nil_of_length_eq_zero hl.symm
    subst this
    exact ⟨by simp [bodiesB], rfl, rfl⟩
  | f :: fs, [], xs, gs, r, hb, hl, _, h => by cases hl
  | f :: fs, z :: zs, xs, gs, r, hb, hl, hf, h => by
    rw [bodiesP] at h
    rcases h1 : cutP z xs with _ | ⟨b, r1⟩
    · rw [h1] at h; cases h
    · rw [h1] at h
      simp only at h
      rcases h2 : bodiesP fs zs r1 with _ | ⟨gs', r'⟩
      · rw [h2] at h; cases h
      · rw [h2] at h
        simp only at h
        injection h with h
        injection h with h3 h
        subst h3; subst h
        have hc := cutP_bts hb h1
        have e : xs = b ++ r1 := by
          unfold cutP at h1
          split at h1
          · injection h1 with h1
            injection h1 with h4 h5
            rw [← h4, ← h5, List.take_append_drop]
          · cases h1
        obtain ⟨e2, e3, e4⟩ := bodiesP_inv fs zs r1 gs' r' hc.2.1 (by simpa using hl) (fun g hg => hf g (by simp [hg])) h2
        refine ⟨by rw [e, e2]; simp [bodiesB], ?_, ?_⟩
        · rw [List.map_cons, e3]
          congr 1
          have := hf f (by simp)
          unfold Fi.bare
          cases f
          simp at this ⊢
          exact this
        · rw [List.map_cons, e4]
          congr 1
          exact hc.2.2
theorem headsZ_bare : ∀ (gs : List Fi), headsZ (gs.map Fi.bare) (gs.map fun f => f.body.length) = headsB gs
  | [] => rfl
  | f :: gs => by
    rw [List.map_cons, List.map_cons, headsZ, headsZ_bare gs]
    have : headZ f.bare f.body.length = headB f := by rw [headB_Z]; rfl
    rw [this]
    simp [headsB]
/-- what Decode takes is what Encode writes -/
theorem decP_inv {xs : List Int} {gs : List Fi} (hb : Bts xs) (hN : xs.length ≤ 1000000) (h : decP xs = some gs) : xs = encB gs ∧ gs.length ≤ 200 ∧ adjB gs = true ∧ checkI gs = 0 ∧ (∀ f ∈ gs, FileIn xs.length f) := by
  unfold decP at h
  rcases h1 : getN xs with _ | ⟨cnt, r⟩
  · rw [h1] at h; cases h
  · rw [h1] at h
    simp only at h
    obtain ⟨l1, e1⟩ := (getN_spec hb cnt r).1 h1
    have b1 := (getN_bts hb h1).1
    have le1 := getN_le hb h1
    split at h
    · rename_i hc
      rcases h2 : filesP cnt r with _ | ⟨fs, zs, r'⟩
      · rw [h2] at h; cases h
      · rw [h2] at h
        simp only at h
        obtain ⟨e2, l2, l3, hbs⟩ := filesP_inv cnt r fs zs r' b1 h2
        have hin := filesP_in (N := xs.length) (by omega) cnt r fs zs r' b1 le1 h2
        rcases h3 : bodiesP fs zs r' with _ | ⟨gs', r''⟩
        · rw [h3] at h; cases h
        · rw [h3] at h
          simp only at h
          obtain ⟨e3, e4, e5⟩ := bodiesP_inv fs zs r' gs' r'' hin.2.1 (by omega) hbs h3
          have hin2 := bodiesP_in fs zs r' gs' r'' hin.2.1 hin.2.2 hin.1 h3
          split at h
          · rename_i hh
            injection h with h
            subst h
            obtain ⟨rfl, ha, hk⟩ := hh
            have hgl : gs'.length = cnt := by rw [← l2, ← e4, List.length_map]
            refine ⟨?_, by omega, ha, hk, hin2⟩
            unfold encB
            rw [← headsZ_bare, e4, e5, hgl, e1, e2, e3]
            simp
          · cases h
    · cases h
theorem FileIn.enc {N : Nat} {f : Fi} (h : FileIn N f) (hN : N ≤ 1000000) : FEnc f := ⟨h.ok, by have := h.name; omega, by have := h.body; omega, h.mode⟩
/-- each stands once: sorted in the one sense and in the other -/
theorem adj_srt : ∀ (fs : List Fi), adjB fs = true ↔ Srt Fi.name fs := by
  intro fs
  constructor
  · intro h
    unfold adjB at h
    rw [List.all_eq_true] at h
    unfold Srt
    rw [List.pairwise_iff_getElem]
    have step : ∀ j, (hj : j + 1 < fs.length) → lessB (fs[j + 1]).name (fs[j]).name = false := by
      intro j hj
      have := h j (List.mem_range.2 (by omega))
      rw [List.getD_eq_getElem?_getD, List.getD_eq_getElem?_getD, List.getElem?_eq_getElem hj, List.getElem?_eq_getElem (by omega : j < fs.length)] at this
      simpa using this
    intro i j hi hj hij
    induction j with
    | zero => omega
    | succ j ih =>
      by_cases e : i = j
      · subst e; exact step i hj
      · exact le_trans' (ih (by omega) (by omega)) (step j hj)
  · intro h
    refine adj_true fun j hj => ?_
    unfold Srt at h
    rw [List.pairwise_iff_getElem] at h
    have := h j (j + 1) (by omega) hj (by omega)
    rw [List.getD_eq_getElem?_getD, List.getD_eq_getElem?_getD, List.getElem?_eq_getElem hj, List.getElem?_eq_getElem (by omega : j < fs.length)]
    exact this
end Go.Proofs.YtlgonkopojancaaDoor
