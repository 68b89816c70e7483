/- How a slice of files lies in memory. -/
import Derived.Test.YtlgonkopojancaaDoorFxOpen
namespace Go.Proofs.YtlgonkopojancaaDoor
open Go.ChangeShapes Go.WideShapes Go.ChangeAt Go.RowKit Go.Deep

section
variable {H : Type} {enc : TypeId × Value → H} {P : Program} {w : World} {base : Nat} {spare : Nat → Bool} {held : Bool}
theorem open_slice_fields {t e : TypeId} {fs : Array Field} {fuel : Nat} {cs : List Value} {x : DataW H × List MemPlace} (ht : P.underlying t = some (.slice e)) (he : P.underlying e = some (.struct fs))
    (hone : oneCellFields P fs = true) (hC : P.cellsOf e = fs.size) (h : DataW.trod enc P w base spare held fuel t cs = some x) :
    (cs = [.slice none 0 0] ∧ x = (.nil, [])) ∨
    ∃ (a : Addr) (len cap m : Nat), cs = [.slice (some a) len cap] ∧ len ≤ cap ∧ cap ≤ maxLen ∧ m = (if spare a.block then cap else len) ∧
      ∀ i, i < m → ∀ (j : Nat) (f : Field), fs[j]? = some f → ∃ (n : Nat) (v : Value) (y : DataW H × List MemPlace), w.cell? (a.add (i * fs.size + j)) = some v ∧ DataW.trod enc P w base spare held n f.type [v] = some y := by
  rcases open_slice ht h with h0 | ⟨a, len, cap, m, n, D, Pl, hcs, hb, hl, hm, hmm, hx, hi⟩
  · exact .inl h0
  · refine .inr ⟨a, len, cap, m, hcs, hl, hm, hmm, fun i him j f hj => ?_⟩
    obtain ⟨cs', hc, ht'⟩ := hi i him
    rw [hC] at hc
    obtain ⟨ys, n', hn', hy, hlen, hyl, hf⟩ := DataW.trod_struct he ht'
    obtain ⟨_, hcl, hat⟩ := World.cells?_some hc
    obtain ⟨ho, hk⟩ := hone_of hone j f hj
    have hjl : j < fs.size := (Array.getElem?_eq_some_iff.1 hj).1
    have hcell := hat j hjl
    have hv : cs'[j]? = some (cs'[j]'(by omega)) := List.getElem?_eq_getElem (by omega)
    have h1 := hf j f hj
    rw [ho, hk] at h1
    have hone' : (cs'.drop j).take 1 = [cs'[j]'(by omega)] := by
      rw [List.drop_eq_getElem_cons (by omega)]
      rfl
    rw [hone'] at h1
    have hys : ys[j]? = some (ys[j]'(by omega)) := List.getElem?_eq_getElem (by omega)
    exact ⟨n', _, _, by rw [← Go.Deep.add_add, hcell, hv], h1.trans hys⟩
end
theorem reads_of {H : Type} {enc : TypeId × Value → H} {W : World} {base : Nat} {spare : Nat → Bool} {held : Bool} {fuel : Nat} {v : Value} {x : DataW H × List MemPlace}
    (h : DataW.trod enc Tryd.prog W base spare held fuel 25 [v] = some x) : ∃ (A : Option Addr) (n c : Nat) (zs : List Int), v = .slice A n c ∧ Reads W .u8 A n zs ∧ Bts zs := by
  obtain ⟨a0, cap, zs, e, ⟨hr, _, _⟩, hb⟩ := open_bytes h
  injection e with e
  exact ⟨a0, zs.length, cap, zs, e, hr, hb⟩
/-- what a law is told of a slice of files -/
def Files (w : World) (A : Option Addr) (n c : Nat) (fs : List Fi) : Prop := FRd w A n fs ∧ n ≤ c ∧ c ≤ 9223372036854775807
theorem open_files {H : Type} {enc : TypeId × Value → H} {W : World} {base : Nat} {spare : Nat → Bool} {held : Bool} {fuel : Nat} {cs : List Value} {x : DataW H × List MemPlace}
    (h : DataW.trod enc Tryd.prog W base spare held fuel 23 cs = some x) : ∃ (a0 : Option Addr) (cap : Nat) (fs : List Fi), cs = [.slice a0 fs.length cap] ∧ Files W a0 fs.length cap fs ∧ (∀ f ∈ fs, FOk f) := by
  rcases open_slice_fields Tryd.underlying23 Tryd.underlying33 (by kernel_rfl) (by kernel_rfl) h with ⟨h0, _⟩ | ⟨a, len, cap, m, hcs, hl, hm, hmm, hi⟩
  · exact ⟨none, 0, [], h0, ⟨⟨rfl, by simp, fun h => absurd h (by simp)⟩, by simp, by decide⟩, fun f hf => by simp at hf⟩
  · have hml : len ≤ m := by rw [hmm]; split <;> omega
    unfold maxLen at hm
    rcases Nat.eq_zero_or_pos len with h0 | h0
    · subst h0
      exact ⟨some a, cap, [], hcs, ⟨⟨rfl, by simp, fun h => absurd h (by simp)⟩, by simp, by omega⟩, fun f hf => by simp at hf⟩
    · have hz : ∀ i, i < len → ∃ (f : Fi), FOk f ∧ ∃ A n c, W.cell? (a.add (i * 4)) = some (.string f.name) ∧ W.cell? (a.add (i * 4 + 1)) = some (.int .u32 f.mode) ∧ W.cell? (a.add (i * 4 + 2)) = some (.int .i64 f.time) ∧ W.cell? (a.add (i * 4 + 3)) = some (.slice A n c) ∧ Reads W .u8 A n f.body := by
        intro i hil
        obtain ⟨n0, v0, y0, c0, t0⟩ := hi i (by omega) 0 _ rfl
        obtain ⟨n1, v1, y1, c1, t1⟩ := hi i (by omega) 1 _ rfl
        obtain ⟨n2, v2, y2, c2, t2⟩ := hi i (by omega) 2 _ rfl
        obtain ⟨n3, v3, y3, c3, t3⟩ := hi i (by omega) 3 _ rfl
        obtain ⟨s, e0, _, hs⟩ := DataW.trod_string Tryd.underlying9 t0
        obtain ⟨md, e1, _, hmd⟩ := DataW.trod_int Tryd.underlying31 t1
        obtain ⟨tm, e2, _, htm⟩ := DataW.trod_int Tryd.underlying2 t2
        obtain ⟨A, n, c, zs, e3, hr, hb⟩ := reads_of t3
        injection e0 with e0; injection e1 with e1; injection e2 with e2
        subst e0; subst e1; subst e2; subst e3
        have b1 := bounds_u32 hmd
        have b2 := bounds_i64 htm
        unfold maxLen at hs
        exact ⟨⟨s, md, tm, zs⟩, ⟨by omega, ⟨b1.1, Int.lt_of_le_of_lt b1.2 (by decide)⟩, b2, hb⟩, A, n, c, c0, c1, c2, c3, hr⟩
      obtain ⟨b, o, spot⟩ := a
      have hspot : spot = none := by
        obtain ⟨f, _, A, n, c, h0, _⟩ := hz 0 h0
        simpa [Addr.add] using World.cell?_spot h0
      subst hspot
      obtain ⟨fs, hfl, hfs⟩ := choose_list (α := Unit) (β := Fi) (fun i _ f => FOk f ∧ FAt W b (o + i * 4) f) (List.replicate len ()) 0 (fun j hj => by
        rw [List.length_replicate] at hj
        obtain ⟨f, ho, A, n, c, c0, c1, c2, c3, hr⟩ := hz j hj
        rw [add_none] at c0 c1 c2 c3
        rw [Nat.zero_add]
        exact ⟨f, ho, A, n, c, c0, c1, c2, c3, hr⟩)
      rw [List.length_replicate] at hfl
      have hg : ∀ j, j < len → FOk (fs.getD j default) ∧ FAt W b (o + j * 4) (fs.getD j default) := fun j hj => by
        have := hfs j (by rw [List.length_replicate]; exact hj)
        rw [Nat.zero_add] at this
        exact this
      refine ⟨some ⟨b, o, none⟩, cap, fs, by rw [hfl]; exact hcs, ⟨⟨rfl, by omega, fun _ => ⟨b, o, rfl, fun j hj => (hg j (by omega)).2⟩⟩, by omega, by omega⟩, fun f hf => ?_⟩
      obtain ⟨j, hj, rfl⟩ := List.getElem_of_mem hf
      have := (hg j (by omega)).1
      rw [List.getD_eq_getElem?_getD, List.getElem?_eq_getElem hj] at this
      exact this
end Go.Proofs.YtlgonkopojancaaDoor
