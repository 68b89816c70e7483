/- Plain facts of files that may be, whatever their order. -/
import Derived.Test.YtlgonkopojancaaDoorFxLawP
namespace Go.Proofs.YtlgonkopojancaaDoor
open Go.RowKit

theorem inL_mem {s : ByteArray} {S : List ByteArray} : inL s S = true ↔ s ∈ S := by
  unfold inL
  rw [List.any_eq_true]
  constructor
  · rintro ⟨t, ht, h⟩
    have := of_decide_eq_true h
    subst this; exact ht
  · intro h
    exact ⟨s, h, decide_eq_true rfl⟩
theorem namesOk_iff : ∀ (fs : List Fi) (S : List ByteArray), namesOk S fs = true ↔ (∀ f ∈ fs, nameB f.name = true) ∧ (fs.map Fi.name).Nodup ∧ ∀ f ∈ fs, f.name ∉ S
  | [], S => by simp [namesOk]
  | f :: fs, S => by
    rw [namesOk, Bool.and_eq_true, Bool.and_eq_true, namesOk_iff fs]
    constructor
    · rintro ⟨⟨h1, h2⟩, h3, h4, h5⟩
      have hS : f.name ∉ S := fun h => by rw [inL_mem.2 h] at h2; cases h2
      refine ⟨fun g hg => ?_, ?_, fun g hg => ?_⟩
      · rcases List.mem_cons.1 hg with rfl | hg
        · exact h1
        · exact h3 g hg
      · rw [List.map_cons, List.nodup_cons]
        refine ⟨fun hm => ?_, h4⟩
        obtain ⟨g, hg, e⟩ := List.mem_map.1 hm
        exact h5 g hg (by rw [e]; simp)
      · rcases List.mem_cons.1 hg with rfl | hg
        · exact hS
        · exact fun h => h5 g hg (by simp [h])
    · rintro ⟨h1, h2, h3⟩
      rw [List.map_cons, List.nodup_cons] at h2
      refine ⟨⟨h1 f (by simp), ?_⟩, fun g hg => h1 g (by simp [hg]), h2.2, fun g hg => ?_⟩
      · have := h3 f (by simp)
        rcases hi : inL f.name S with _ | _
        · rfl
        · exact absurd (inL_mem.1 hi) this
      · intro h
        rcases List.mem_append.1 h with h | h
        · exact h3 g (by simp [hg]) h
        · simp at h
          exact h2.1 (List.mem_map.2 ⟨g, hg, h⟩)
theorem namesOk_perm {fs gs : List Fi} (h : fs.Perm gs) : namesOk [] fs = namesOk [] gs := by
  rw [Bool.eq_iff_iff, namesOk_iff, namesOk_iff]
  exact ⟨fun ⟨a, b, _⟩ => ⟨fun f hf => a f (h.mem_iff.2 hf), (h.map _).nodup_iff.1 b, fun _ _ => List.not_mem_nil⟩,
    fun ⟨a, b, _⟩ => ⟨fun f hf => a f (h.mem_iff.1 hf), (h.map _).nodup_iff.2 b, fun _ _ => List.not_mem_nil⟩⟩
theorem checkI_perm {fs gs : List Fi} (h : fs.Perm gs) : checkI fs = checkI gs := by
  have h1 := namesOk_perm h
  have h2 : wide fs = wide gs := by
    unfold wide
    rw [Bool.eq_iff_iff, List.any_eq_true, List.any_eq_true]
    exact ⟨fun ⟨f, hf, e⟩ => ⟨f, h.mem_iff.1 hf, e⟩, fun ⟨f, hf, e⟩ => ⟨f, h.mem_iff.2 hf, e⟩⟩
  have h3 : total fs = total gs := (h.map _).sum_nat
  unfold checkI
  rw [h1, h2, h3, h.length_eq]
theorem stable_perm {fs gs : List Fi} (h : StableOf Fi.name fs gs) : gs.Perm fs := filters_perm h.2
theorem checkI_stable {fs gs : List Fi} (h : StableOf Fi.name fs gs) : checkI gs = checkI fs := checkI_perm (stable_perm h)
theorem stable_names {fs gs : List Fi} (h : StableOf Fi.name fs gs) : ∀ f, f ∈ gs ↔ f ∈ fs := fun _ => (stable_perm h).mem_iff
theorem check_parts {fs : List Fi} (h : checkI fs = 0) : (∀ f ∈ fs, nameB f.name = true) ∧ (fs.map Fi.name).Nodup ∧ fs.length ≤ 200 ∧ (∀ f ∈ fs, f.mode ≤ 4095) ∧ total fs ≤ 2097152 := by
  unfold checkI at h
  split at h
  · rename_i h1
    split at h
    · cases h
    · rename_i h2
      simp only [Bool.or_eq_true, decide_eq_true_eq, not_or] at h2
      obtain ⟨a, b, _⟩ := (namesOk_iff fs []).1 h1
      refine ⟨a, b, by omega, fun f hf => ?_, by omega⟩
      have h3 := h2.1.2
      unfold wide at h3
      rw [List.any_eq_true] at h3
      have : ¬ (4095 < f.mode) := fun hq => h3 ⟨f, hf, decide_eq_true hq⟩
      omega
  · cases h
/-- what the laws' guard lets in -/
def FewOk (fs : List Fi) : Prop := fs.length ≤ 60 ∧ ∀ f ∈ fs, f.name.size ≤ 200 ∧ f.body.length ≤ 500
theorem FewOk.perm {fs gs : List Fi} (h : FewOk fs) (p : gs.Perm fs) : FewOk gs := ⟨by rw [p.length_eq]; exact h.1, fun f hf => h.2 f (p.mem_iff.1 hf)⟩
theorem FewOk.body {fs : List Fi} (h : FewOk fs) : ∀ f ∈ fs, f.body.length ≤ 1000000 := fun f hf => by have := (h.2 f hf).2; omega
theorem FewOk.name {fs : List Fi} (h : FewOk fs) : ∀ f ∈ fs, f.name.size ≤ 1000000 := fun f hf => by have := (h.2 f hf).1; omega
theorem FewOk.enc {fs : List Fi} (h : FewOk fs) (hok : ∀ f ∈ fs, FOk f) (hc : checkI fs = 0) : ∀ f ∈ fs, FEnc f := fun f hf =>
  ⟨hok f hf, by have := (h.2 f hf).1; omega, by have := (h.2 f hf).2; omega, (check_parts hc).2.2.2.1 f hf⟩
theorem few_heads : ∀ (fs : List Fi), (∀ f ∈ fs, FOk f) → (∀ f ∈ fs, f.name.size ≤ 200 ∧ f.body.length ≤ 500) → (headsB fs).length ≤ fs.length * 240 ∧ (bodiesB fs).length ≤ fs.length * 500
  | [], _, _ => by simp [headsB, bodiesB]
  | f :: fs, h, hs => by
    obtain ⟨i1, i2⟩ := few_heads fs (fun g hg => h g (by simp [hg])) (fun g hg => hs g (by simp [hg]))
    have hf := h f (by simp)
    obtain ⟨s1, s2⟩ := hs f (by simp)
    have h1 := numb64 (n := f.name.size) (by omega)
    have h2 := numb64 (n := f.mode.toNat) (by have := hf.mode; omega)
    have h3 := numb64 (zig_lt hf.time.1 hf.time.2)
    have h4 := numb64 (n := f.body.length) (by omega)
    have e1 : (headsB (f :: fs)).length = (headB f).length + (headsB fs).length := by simp [headsB]
    have e2 : (bodiesB (f :: fs)).length = f.body.length + (bodiesB fs).length := by simp [bodiesB]
    have e3 : (headB f).length ≤ 240 := by
      unfold headB
      simp only [List.length_append, length_nums]
      omega
    rw [e1, e2, List.length_cons]
    omega
theorem FewOk.len {fs : List Fi} (h : FewOk fs) (hok : ∀ f ∈ fs, FOk f) : (encB fs).length ≤ 50000 := by
  obtain ⟨i1, i2⟩ := few_heads fs hok h.2
  have := h.1
  have h1 := numb64 (n := fs.length) (by omega)
  unfold encB
  simp only [List.length_append]
  omega
/-- Decode of what Encode wrote -/
theorem decP_sorted {fs gs : List Fi} (h : FewOk fs) (hok : ∀ f ∈ fs, FOk f) (hc : checkI fs = 0) (hs : StableOf Fi.name fs gs) : decP (encB gs) = some gs ∧ Bts (encB gs) ∧ (encB gs).length ≤ 50000 := by
  have hp := stable_perm hs
  have hok' : ∀ f ∈ gs, FOk f := fun f hf => hok f (hp.mem_iff.1 hf)
  have hc' : checkI gs = 0 := (checkI_stable hs).trans hc
  have he := (h.perm hp).enc hok' hc'
  have := decP_enc (ys := []) he (by have := (h.perm hp).1; omega) bts_nil
  rw [List.append_nil, if_pos ⟨rfl, (adj_srt gs).2 hs.1, hc'⟩] at this
  exact ⟨this, encB_bts he, (h.perm hp).len hok'⟩
theorem find_in {fs : List Fi} (hn : (fs.map Fi.name).Nodup) {f : Fi} (hf : f ∈ fs) : fs.find? (fun g => decide (g.name = f.name)) = some f := by
  induction fs with
  | nil => cases hf
  | cons g fs ih =>
    rw [List.map_cons, List.nodup_cons] at hn
    rcases List.mem_cons.1 hf with rfl | hf
    · rw [List.find?_cons_of_pos (by simp)]
    · rw [List.find?_cons_of_neg]
      · exact ih hn.2 hf
      · simp only [decide_eq_true_eq]
        intro e
        exact hn.1 (List.mem_map.2 ⟨f, hf, e.symm⟩)
/-- one name each: an order of the names is the order -/
theorem stable_any {fs gs hs : List Fi} (hn : (fs.map Fi.name).Nodup) (p : hs.Perm fs) (h : StableOf Fi.name fs gs) : StableOf Fi.name hs gs := by
  refine ⟨h.1, fun k => ?_⟩
  rw [h.2 k]
  have key : ∀ (l : List Fi), (l.map Fi.name).Nodup → l.filter (fun x => decide (Fi.name x = k)) = (match l.find? (fun g => decide (g.name = k)) with | some f => [f] | none => []) := by
    intro l hl
    induction l with
    | nil => rfl
    | cons g l ih =>
      rw [List.map_cons, List.nodup_cons] at hl
      by_cases hg : g.name = k
      · rw [List.filter_cons_of_pos (by simp [hg]), List.find?_cons_of_pos (by simp [hg])]
        have : l.filter (fun x => decide (Fi.name x = k)) = [] := by
          rw [List.filter_eq_nil_iff]
          intro x hx
          simp only [decide_eq_true_eq]
          intro e
          exact hl.1 (List.mem_map.2 ⟨x, hx, e.trans hg.symm⟩)
        rw [this]
      · rw [List.filter_cons_of_neg (by simp [hg]), List.find?_cons_of_neg (by simp [hg])]
        exact ih hl.2
  have p2 := p.filter (fun x => decide (Fi.name x = k))
  have hn2 : (hs.map Fi.name).Nodup := (p.map _).nodup_iff.2 hn
  rw [key fs hn, key hs hn2] at p2 ⊢
  rcases h1 : fs.find? (fun g => decide (g.name = k)) with _ | f <;> rcases h2 : hs.find? (fun g => decide (g.name = k)) with _ | g <;> rw [h1, h2] at p2 ⊢ <;> simp_all
end Go.Proofs.YtlgonkopojancaaDoor
