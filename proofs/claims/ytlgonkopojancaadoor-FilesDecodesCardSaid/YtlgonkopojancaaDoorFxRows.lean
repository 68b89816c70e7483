/- Rows of files, cell by cell. -/
import Derived.Test.YtlgonkopojancaaDoorFxClone
import Derived.Lib.SlBy
namespace Go.Proofs.YtlgonkopojancaaDoor
open Go.RowKit

/-- a file as its four cells tell it -/
structure FV where
  f : Fi
  A : Option Addr
  n : Nat
  c : Nat
instance : Inhabited FV := ⟨⟨default, none, 0, 0⟩⟩
def FV.cells (v : FV) : List Value := fcells v.f v.A v.n v.c
def FV.val (v : FV) : Value := fval v.f v.A v.n v.c
theorem FV.val_cells (v : FV) : Value.agg v.cells.toArray = v.val := rfl
theorem FV.length_cells (v : FV) : v.cells.length = 4 := rfl
/-- a row of files, cell by cell -/
def VRd (w : World) (A : Option Addr) (n : Nat) (vs : List FV) : Prop :=
  vs.length = n ∧ n ≤ 9223372036854775807 ∧ (0 < n → ∃ b o, A = some ⟨b, o, none⟩ ∧ ∀ j, j < n → ∀ i u, (vs.getD j default).cells[i]? = some u → w.cell? ⟨b, o + j * 4 + i, none⟩ = some u)
def Bod (w : World) (vs : List FV) : Prop := ∀ v ∈ vs, Reads w .u8 v.A v.n v.f.body

theorem VRd.same {w w' : World} {A : Option Addr} {n : Nat} {vs : List FV} (h : VRd w A n vs) (g : Below w.heap.size w w') : VRd w' A n vs :=
  ⟨h.1, h.2.1, fun hn => by
    obtain ⟨b, o, e, hc⟩ := h.2.2 hn
    refine ⟨b, o, e, fun j hj i u hu => ?_⟩
    have := hc j hj i u hu
    exact (g.cell (p := ⟨b, o + j * 4 + i, none⟩) (World.block_lt_of_cell? w _ this)).trans this⟩
theorem Bod.same {w w' : World} {vs : List FV} (h : Bod w vs) (g : Below w.heap.size w w') : Bod w' vs := fun v hv => (h v hv).same g

theorem cells_four (v : FV) (i : Nat) (u : Value) (h : v.cells[i]? = some u) : (i = 0 ∧ u = .string v.f.name) ∨ (i = 1 ∧ u = .int .u32 v.f.mode) ∨ (i = 2 ∧ u = .int .i64 v.f.time) ∨ (i = 3 ∧ u = .slice v.A v.n v.c) := by
  unfold FV.cells fcells at h
  match i, h with
  | 0, h => simp at h; exact .inl ⟨rfl, h.symm⟩
  | 1, h => simp at h; exact .inr (.inl ⟨rfl, h.symm⟩)
  | 2, h => simp at h; exact .inr (.inr (.inl ⟨rfl, h.symm⟩))
  | 3, h => simp at h; exact .inr (.inr (.inr ⟨rfl, h.symm⟩))
  | k + 4, h => simp at h

theorem choose_list {α β : Type} [Inhabited α] [Inhabited β] (R : Nat → α → β → Prop) : ∀ (fs : List α) (s : Nat), (∀ j, j < fs.length → ∃ v, R (s + j) (fs.getD j default) v) → ∃ vs : List β, vs.length = fs.length ∧ ∀ j, j < fs.length → R (s + j) (fs.getD j default) (vs.getD j default)
  | [], _, _ => ⟨[], rfl, fun j h => absurd h (Nat.not_lt_zero _)⟩
  | f :: fs, s, h => by
    obtain ⟨v, hv⟩ := h 0 (by simp)
    obtain ⟨vs, hl, hr⟩ := choose_list R fs (s + 1) (fun j hj => by
      have := h (j + 1) (by simp; omega)
      rw [List.getD_cons_succ, show s + (j + 1) = s + 1 + j by omega] at this
      exact this)
    refine ⟨v :: vs, by simp [hl], fun j hj => ?_⟩
    cases j with
    | zero => exact hv
    | succ j =>
      rw [List.getD_cons_succ, List.getD_cons_succ, show s + (j + 1) = s + 1 + j by omega]
      exact hr j (by simp at hj; omega)

theorem FRd.choose {w : World} {A : Option Addr} {n : Nat} {fs : List Fi} (h : FRd w A n fs) : ∃ vs : List FV, vs.map FV.f = fs ∧ VRd w A n vs ∧ Bod w vs := by
  obtain ⟨hl, h63, hc⟩ := h
  rcases Nat.eq_zero_or_pos n with h0 | h0
  · subst h0
    have : fs = [] := List.eq_nil_of_length_eq_zero hl
    subst this
    exact ⟨[], rfl, ⟨rfl, h63, fun h => absurd h (by decide)⟩, fun v hv => by simp at hv⟩
  · obtain ⟨b, o, e, hc⟩ := hc h0
    obtain ⟨vs, hvl, hr⟩ := choose_list (fun j (f : Fi) (v : FV) => v.f = f ∧ (∀ i u, v.cells[i]? = some u → w.cell? ⟨b, o + j * 4 + i, none⟩ = some u) ∧ Reads w .u8 v.A v.n v.f.body) fs 0 (fun j hj => by
      obtain ⟨A', n', c', h0, h1, h2, h3, h4⟩ := hc j (by omega)
      refine ⟨⟨fs.getD j default, A', n', c'⟩, rfl, fun i u hu => ?_, h4⟩
      rw [Nat.zero_add]
      rcases cells_four _ i u hu with ⟨rfl, rfl⟩ | ⟨rfl, rfl⟩ | ⟨rfl, rfl⟩ | ⟨rfl, rfl⟩
      · exact h0
      · exact h1
      · exact h2
      · exact h3)
    refine ⟨vs, ?_, ⟨hvl.trans hl, h63, fun _ => ⟨b, o, e, fun j hj => ?_⟩⟩, fun v hv => ?_⟩
    · refine List.ext_getElem (by simp [hvl]) fun j h1 h2 => ?_
      have := (hr j h2).1
      rw [List.getD_eq_getElem?_getD, List.getD_eq_getElem?_getD, List.getElem?_eq_getElem h2, List.getElem?_eq_getElem (by omega)] at this
      simpa using this
    · have := (hr j (by omega)).2.1
      rw [Nat.zero_add] at this
      exact this
    · obtain ⟨j, hj, rfl⟩ := List.getElem_of_mem hv
      have := (hr j (by omega)).2.2
      rw [List.getD_eq_getElem?_getD, List.getElem?_eq_getElem hj] at this
      exact this

theorem VRd.files {w : World} {A : Option Addr} {n : Nat} {vs : List FV} (h : VRd w A n vs) (hb : Bod w vs) : FRd w A n (vs.map FV.f) := by
  obtain ⟨hl, h63, hc⟩ := h
  refine ⟨by simpa using hl, h63, fun hn => ?_⟩
  obtain ⟨b, o, e, hc⟩ := hc hn
  refine ⟨b, o, e, fun j hj => ?_⟩
  have hjl : j < vs.length := by omega
  have he : vs.getD j default = vs[j] := by rw [List.getD_eq_getElem?_getD, List.getElem?_eq_getElem hjl]; rfl
  have hf : (vs.map FV.f).getD j default = vs[j].f := by rw [List.getD_eq_getElem?_getD, List.getElem?_map, List.getElem?_eq_getElem hjl]; rfl
  have hcj := hc j hj
  rw [he] at hcj
  rw [hf]
  exact ⟨vs[j].A, vs[j].n, vs[j].c, hcj 0 _ rfl, hcj 1 _ rfl, hcj 2 _ rfl, hcj 3 _ rfl, hb _ (List.getElem_mem _)⟩

/-- the first place, as a number or -1 -/
theorem idx_of {α : Type} (p : α → Bool) (l : List α) (x : α) [Inhabited α] :
    (∃ i, ∃ h : i < l.length, p l[i] = true ∧ (∀ j, (hj : j < i) → p (l[j]'(by omega)) = false) ∧ Lib.idxBy (fun _ y => p y) l x = (i : Int)) ∨ ((∀ y ∈ l, p y = false) ∧ Lib.idxBy (fun _ y => p y) l x = -1) := by
  by_cases h : l.findIdx p < l.length
  · refine .inl ⟨l.findIdx p, h, List.findIdx_getElem, fun j hj => by have := List.not_of_lt_findIdx hj; simpa using this, ?_⟩
    have := Lib.idxBy_hit (fun _ y => p y) l l.length (l.findIdx p) x h (Nat.le_refl _) (by
      show p l[l.findIdx p]! = true
      rw [getElem!_pos l _ h]
      exact List.findIdx_getElem) (fun j hj => by
      show p l[j]! = false
      rw [getElem!_pos l j (by omega)]
      have := List.not_of_lt_findIdx hj
      simpa using this)
    rw [List.take_length] at this
    exact this
  · have hn : ∀ y ∈ l, p y = false := by
      intro y hy
      rcases hp : p y with _ | _
      · rfl
      · exact absurd (List.findIdx_lt_length_of_exists ⟨y, hy, hp⟩) h
    refine .inr ⟨hn, ?_⟩
    have := Lib.idxBy_miss (fun _ y => p y) l l.length x (fun j hj => by
      show p l[j]! = false
      rw [getElem!_pos l j hj]
      exact hn _ (List.getElem_mem _))
    rw [List.take_length] at this
    exact this
end Go.Proofs.YtlgonkopojancaaDoor
