/- How a slice of files lies in memory. -/
/- The walk of Few. -/
/- Plain facts of files that may be, whatever their order. -/
/- The contracts as the laws' walks use them: the world grows from w0 on. -/
import Derived.Test.YtlgonkopojancaaDoorFxOpen
import Derived.Test.YtlgonkopojancaaDoorFxRows
import Derived.Test.YtlgonkopojancaaDoorFxLawP
import Derived.Test.YtlgonkopojancaaDoorFxStabW
import Derived.Test.YtlgonkopojancaaDoorFxAwk
namespace Go.Proofs.YtlgonkopojancaaDoor
open Go.ChangeShapes Go.WideShapes Go.ChangeAt Go.RowKit Go.Deep

section
variable {H : Type} {enc : TypeId × Value → H} {P : Program} {w : World} {base : Nat} {spare : Nat → Bool} {held : Bool}
theorem open_slice_fields {t e : TypeId} {fs : Array Field} {fuel : Nat} {cs : List Value} {x : DataW H × List MemPlace} (ht : P.underlying t = some (.slice e)) (he : P.underlying e = some (.struct fs))
    (hone : oneCellFields P fs = true) (hC : P.cellsOf e = fs.size) (h : DataW.trod enc P w base spare held fuel t cs = some x) :
    (cs = [.slice none 0 0] ∧ x = (.nil, [])) ∨
    ∃ (a : Addr) (len cap m : Nat), cs = [.slice (some a) len cap] ∧ len ≤ cap ∧ cap ≤ maxLen ∧ m = (if spare a.block then cap else len) ∧
      ∀ i, i < m → ∀ (j : Nat) (f : Field), fs[j]? = some f → ∃ (n : Nat) (v : Value) (y : DataW H × List MemPlace), w.cell? (a.add (i * fs.size + j)) = some v ∧ DataW.trod enc P w base spare held n f.type [v] = some y := by
  rcases open_slice ht h with h0 | ⟨a, len, cap, m, n, D, Pl, hcs, hb, hl, hm, hmm, hx, hi⟩
  · exact .inl h0
  · refine .inr ⟨a, len, cap, m, hcs, hl, hm, hmm, fun i him j f hj => ?_⟩
    obtain ⟨cs', hc, ht'⟩ := hi i him
    rw [hC] at hc
    obtain ⟨ys, n', hn', hy, hlen, hyl, hf⟩ := DataW.trod_struct he ht'
    obtain ⟨_, hcl, hat⟩ := World.cells?_some hc
    obtain ⟨ho, hk⟩ := hone_of hone j f hj
    have hjl : j < fs.size := (Array.getElem?_eq_some_iff.1 hj).1
    have hcell := hat j hjl
    have hv : cs'[j]? = some (cs'[j]'(by omega)) := List.getElem?_eq_getElem (by omega)
    have h1 := hf j f hj
    rw [ho, hk] at h1
    have hone' : (cs'.drop j).take 1 = [cs'[j]'(by omega)] := by
      rw [List.drop_eq_getElem_cons (by omega)]
      rfl
    rw [hone'] at h1
    have hys : ys[j]? = some (ys[j]'(by omega)) := List.getElem?_eq_getElem (by omega)
    exact ⟨n', _, _, by rw [← Go.Deep.add_add, hcell, hv], h1.trans hys⟩
end
theorem reads_of {H : Type} {enc : TypeId × Value → H} {W : World} {base : Nat} {spare : Nat → Bool} {held : Bool} {fuel : Nat} {v : Value} {x : DataW H × List MemPlace}
    (h : DataW.trod enc Tryd.prog W base spare held fuel 25 [v] = some x) : ∃ (A : Option Addr) (n c : Nat) (zs : List Int), v = .slice A n c ∧ Reads W .u8 A n zs ∧ Bts zs := by
  obtain ⟨a0, cap, zs, e, ⟨hr, _, _⟩, hb⟩ := open_bytes h
  injection e with e
  exact ⟨a0, zs.length, cap, zs, e, hr, hb⟩
/-- what a law is told of a slice of files -/
def Files (w : World) (A : Option Addr) (n c : Nat) (fs : List Fi) : Prop := FRd w A n fs ∧ n ≤ c ∧ c ≤ 9223372036854775807
theorem open_files {H : Type} {enc : TypeId × Value → H} {W : World} {base : Nat} {spare : Nat → Bool} {held : Bool} {fuel : Nat} {cs : List Value} {x : DataW H × List MemPlace}
    (h : DataW.trod enc Tryd.prog W base spare held fuel 23 cs = some x) : ∃ (a0 : Option Addr) (cap : Nat) (fs : List Fi), cs = [.slice a0 fs.length cap] ∧ Files W a0 fs.length cap fs ∧ (∀ f ∈ fs, FOk f) := by
  rcases open_slice_fields Tryd.underlying23 Tryd.underlying33 (by kernel_rfl) (by kernel_rfl) h with ⟨h0, _⟩ | ⟨a, len, cap, m, hcs, hl, hm, hmm, hi⟩
  · exact ⟨none, 0, [], h0, ⟨⟨rfl, by simp, fun h => absurd h (by simp)⟩, by simp, by decide⟩, fun f hf => by simp at hf⟩
  · have hml : len ≤ m := by rw [hmm]; split <;> omega
    unfold maxLen at hm
    rcases Nat.eq_zero_or_pos len with h0 | h0
    · subst h0
      exact ⟨some a, cap, [], hcs, ⟨⟨rfl, by simp, fun h => absurd h (by simp)⟩, by simp, by omega⟩, fun f hf => by simp at hf⟩
    · have hz : ∀ i, i < len → ∃ (f : Fi), FOk f ∧ ∃ A n c, W.cell? (a.add (i * 4)) = some (.string f.name) ∧ W.cell? (a.add (i * 4 + 1)) = some (.int .u32 f.mode) ∧ W.cell? (a.add (i * 4 + 2)) = some (.int .i64 f.time) ∧ W.cell? (a.add (i * 4 + 3)) = some (.slice A n c) ∧ Reads W .u8 A n f.body := by
        intro i hil
        obtain ⟨n0, v0, y0, c0, t0⟩ := hi i (by omega) 0 _ rfl
        obtain ⟨n1, v1, y1, c1, t1⟩ := hi i (by omega) 1 _ rfl
        obtain ⟨n2, v2, y2, c2, t2⟩ := hi i (by omega) 2 _ rfl
        obtain ⟨n3, v3, y3, c3, t3⟩ := hi i (by omega) 3 _ rfl
        obtain ⟨s, e0, _, hs⟩ := DataW.trod_string Tryd.underlying9 t0
        obtain ⟨md, e1, _, hmd⟩ := DataW.trod_int Tryd.underlying31 t1
        obtain ⟨tm, e2, _, htm⟩ := DataW.trod_int Tryd.underlying2 t2
        obtain ⟨A, n, c, zs, e3, hr, hb⟩ := reads_of t3
        injection e0 with e0; injection e1 with e1; injection e2 with e2
        subst e0; subst e1; subst e2; subst e3
        have b1 := bounds_u32 hmd
        have b2 := bounds_i64 htm
        unfold maxLen at hs
        exact ⟨⟨s, md, tm, zs⟩, ⟨by omega, ⟨b1.1, Int.lt_of_le_of_lt b1.2 (by decide)⟩, b2, hb⟩, A, n, c, c0, c1, c2, c3, hr⟩
      obtain ⟨b, o, spot⟩ := a
      have hspot : spot = none := by
        obtain ⟨f, _, A, n, c, h0, _⟩ := hz 0 h0
        simpa [Addr.add] using World.cell?_spot h0
      subst hspot
      obtain ⟨fs, hfl, hfs⟩ := choose_list (α := Unit) (β := Fi) (fun i _ f => FOk f ∧ FAt W b (o + i * 4) f) (List.replicate len ()) 0 (fun j hj => by
        rw [List.length_replicate] at hj
        obtain ⟨f, ho, A, n, c, c0, c1, c2, c3, hr⟩ := hz j hj
        rw [add_none] at c0 c1 c2 c3
        rw [Nat.zero_add]
        exact ⟨f, ho, A, n, c, c0, c1, c2, c3, hr⟩)
      rw [List.length_replicate] at hfl
      have hg : ∀ j, j < len → FOk (fs.getD j default) ∧ FAt W b (o + j * 4) (fs.getD j default) := fun j hj => by
        have := hfs j (by rw [List.length_replicate]; exact hj)
        rw [Nat.zero_add] at this
        exact this
      refine ⟨some ⟨b, o, none⟩, cap, fs, by rw [hfl]; exact hcs, ⟨⟨rfl, by omega, fun _ => ⟨b, o, rfl, fun j hj => (hg j (by omega)).2⟩⟩, by omega, by omega⟩, fun f hf => ?_⟩
      obtain ⟨j, hj, rfl⟩ := List.getElem_of_mem hf
      have := (hg j (by omega)).1
      rw [List.getD_eq_getElem?_getD, List.getElem?_eq_getElem hj] at this
      exact this
end Go.Proofs.YtlgonkopojancaaDoor
namespace Go.Proofs.YtlgonkopojancaaDoor
open Go.RowKit

/-- what Few says -/
def fewB (fs : List Fi) : Bool := decide (fs.length ≤ 60) && fs.all (fun f => decide (f.name.size ≤ 200) && decide (f.body.length ≤ 500))
def fewTo (fs : List Fi) (i : Nat) : Prop := ∀ j, j < i → (fs.getD j default).name.size ≤ 200 ∧ (fs.getD j default).body.length ≤ 500
theorem few_true {fs : List Fi} (h : fs.length ≤ 60) (g : fewTo fs fs.length) : fewB fs = true := by
  unfold fewB
  rw [Bool.and_eq_true, List.all_eq_true]
  refine ⟨decide_eq_true h, fun f hf => ?_⟩
  obtain ⟨j, hj, rfl⟩ := List.getElem_of_mem hf
  have := g j hj
  rw [List.getD_eq_getElem?_getD, List.getElem?_eq_getElem hj] at this
  simpa using this
theorem few_false {fs : List Fi} {j : Nat} (hj : j < fs.length) (h : ¬ ((fs.getD j default).name.size ≤ 200 ∧ (fs.getD j default).body.length ≤ 500)) : fewB fs = false := by
  unfold fewB
  rw [Bool.and_eq_false_iff]
  right
  rw [List.all_eq_false]
  refine ⟨fs[j], List.getElem_mem hj, ?_⟩
  rw [List.getD_eq_getElem?_getD, List.getElem?_eq_getElem hj] at h
  simpa using h
set_option maxRecDepth 20000 in
set_option maxHeartbeats 2000000 in
theorem few_any (fs : List Fi) (A : Option Addr) (n c : Nat) (w : World) (hf : FRd w A n fs) (hs : ∀ f ∈ fs, f.name.size ≤ 9223372036854775807) :
    Calls Tryd.prog 12 #[.slice A n c] w fun e w' => e = .returned (.bool (fewB fs)) ∧ Same w w' := by
  obtain ⟨hl, h63, hc⟩ := hf
  have HC := Lib.hid hc; have HS := Lib.hid hs; have HL := Lib.hid hl
  clear hc hs hl
  by_cases h60 : (n : Int) > 60
  · have HF : Hid (fewB fs = false) := (by unfold fewB; rw [HL.out, decide_eq_false (by omega)]; rfl : fewB fs = false)
    clear h63
    go_enter Tryd.func12, Tryd.ntmps12
    go_wp2_with fail
    go_ret
    exact ⟨by rw [HF.out]; rfl, Fr.refl _ _⟩
  · have n60 : (n : Int) ≤ 60 := by omega
    clear h60 h63
    go_enter Tryd.func12, Tryd.ntmps12
    go_wp2_with fail
    go_loopw [3] (fun v3 wr => ∃ i : Nat, v3 = .int .i64 i ∧ (i : Int) ≤ n ∧ Hid (fewTo fs i) ∧ Hid (Same w wr)) (fun v3 _ => n - (intOf v3).toNat)
    case atStart => exact ⟨0, rfl, by omega, fun j hj => absurd hj (Nat.not_lt_zero _), Fr.refl _ _⟩
    case round =>
      obtain ⟨i, rfl, hin, HT, HSM⟩ := hrel
      by_cases hi : (i : Int) < n
      · obtain ⟨b, o, rfl, hcs⟩ := HC.out (by omega)
        obtain ⟨A', n', c', h0, h1, h2, h3, h4⟩ := hcs i (by omega)
        obtain ⟨nm, hnm⟩ : ∃ nm, (fs.getD i default).name = nm := ⟨_, rfl⟩
        have hb' : (fs.getD i default).body.length = n' := h4.1
        have k0 := HSM.out.cell h0 (fun e => e)
        have k3 := HSM.out.cell h3 (fun e => e)
        rw [hnm] at k0
        have sz : (nm.size : Int) ≤ 9223372036854775807 := by
          have := HS.out (fs.getD i default) (by
            rw [List.getD_eq_getElem?_getD, List.getElem?_eq_getElem (by have := HL.out; omega)]
            exact List.getElem_mem _)
          rw [hnm] at this
          omega
        have HN := Lib.hid hnm; have HBL := Lib.hid hb'
        clear hcs h0 h1 h2 h3 h4 hnm hb'
        by_cases hs1 : (nm.size : Int) > 200
        · have HF : Hid (fewB fs = false) := (few_false (j := i) (by have := HL.out; omega) (by rw [HN.out]; omega) : fewB fs = false)
          go_wp2_with fail
          go_ret
          exact ⟨by rw [HF.out]; rfl, HSM.out⟩
        · by_cases hs2 : (n' : Int) > 500
          · have HF : Hid (fewB fs = false) := (few_false (j := i) (by have := HL.out; omega) (by rw [HBL.out]; omega) : fewB fs = false)
            go_wp2_with fail
            go_ret
            exact ⟨by rw [HF.out]; rfl, HSM.out⟩
          · have HT1 : Hid (fewTo fs (i + 1)) := (fun j hj => by
              by_cases hji : j < i
              · exact HT.out j hji
              · have : j = i := by omega
                subst this
                rw [HN.out, HBL.out]
                omega : fewTo fs (i + 1))
            go_wp2_with fail
            go_roundw
            case rel => exact ⟨i + 1, by go_num, by omega, HT1.out, HSM.out⟩
            case measure => simp [intOf]; omega
      · have hin2 : i = n := by omega
        have HF : Hid (fewB fs = true) := (few_true (by have := HL.out; omega) (by rw [HL.out, ← hin2]; exact HT.out) : fewB fs = true)
        go_wp2_with fail
        go_ret
        exact ⟨by rw [HF.out]; rfl, HSM.out⟩
end Go.Proofs.YtlgonkopojancaaDoor
namespace Go.Proofs.YtlgonkopojancaaDoor
open Go.RowKit

theorem inL_mem {s : ByteArray} {S : List ByteArray} : inL s S = true ↔ s ∈ S := by
  unfold inL
  rw [List.any_eq_true]
  constructor
  · rintro ⟨t, ht, h⟩
    have := of_decide_eq_true h
    subst this; exact ht
  · intro h
    exact ⟨s, h, decide_eq_true rfl⟩
theorem namesOk_iff : ∀ (fs : List Fi) (S : List ByteArray), namesOk S fs = true ↔ (∀ f ∈ fs, nameB f.name = true) ∧ (fs.map Fi.name).Nodup ∧ ∀ f ∈ fs, f.name ∉ S
  | [], S => by simp [namesOk]
  | f :: fs, S => by
    rw [namesOk, Bool.and_eq_true, Bool.and_eq_true, namesOk_iff fs]
    constructor
    · rintro ⟨⟨h1, h2⟩, h3, h4, h5⟩
      have hS : f.name ∉ S := fun h => by rw [inL_mem.2 h] at h2; cases h2
      refine ⟨fun g hg => ?_, ?_, fun g hg => ?_⟩
      · rcases List.mem_cons.1 hg with rfl | hg
        · exact h1
        · exact h3 g hg
      · rw [List.map_cons, List.nodup_cons]
        refine ⟨fun hm => ?_, h4⟩
        obtain ⟨g, hg, e⟩ := List.mem_map.1 hm
        exact h5 g hg (by rw [e]; simp)
      · rcases List.mem_cons.1 hg with rfl | hg
        · exact hS
        · exact fun h => h5 g hg (by simp [h])
    · rintro ⟨h1, h2, h3⟩
      rw [List.map_cons, List.nodup_cons] at h2
      refine ⟨⟨h1 f (by simp), ?_⟩, fun g hg => h1 g (by simp [hg]), h2.2, fun g hg => ?_⟩
      · have := h3 f (by simp)
        rcases hi : inL f.name S with _ | _
        · rfl
        · exact absurd (inL_mem.1 hi) this
      · intro h
        rcases List.mem_append.1 h with h | h
        · exact h3 g (by simp [hg]) h
        · simp at h
          exact h2.1 (List.mem_map.2 ⟨g, hg, h⟩)
theorem namesOk_perm {fs gs : List Fi} (h : fs.Perm gs) : namesOk [] fs = namesOk [] gs := by
  rw [Bool.eq_iff_iff, namesOk_iff, namesOk_iff]
  exact ⟨fun ⟨a, b, _⟩ => ⟨fun f hf => a f (h.mem_iff.2 hf), (h.map _).nodup_iff.1 b, fun _ _ => List.not_mem_nil⟩,
    fun ⟨a, b, _⟩ => ⟨fun f hf => a f (h.mem_iff.1 hf), (h.map _).nodup_iff.2 b, fun _ _ => List.not_mem_nil⟩⟩
theorem checkI_perm {fs gs : List Fi} (h : fs.Perm gs) : checkI fs = checkI gs := by
  have h1 := namesOk_perm h
  have h2 : wide fs = wide gs := by
    unfold wide
    rw [Bool.eq_iff_iff, List.any_eq_true, List.any_eq_true]
    exact ⟨fun ⟨f, hf, e⟩ => ⟨f, h.mem_iff.1 hf, e⟩, fun ⟨f, hf, e⟩ => ⟨f, h.mem_iff.2 hf, e⟩⟩
  have h3 : total fs = total gs := (h.map _).sum_nat
  unfold checkI
  rw [h1, h2, h3, h.length_eq]
theorem stable_perm {fs gs : List Fi} (h : StableOf Fi.name fs gs) : gs.Perm fs := filters_perm h.2
theorem checkI_stable {fs gs : List Fi} (h : StableOf Fi.name fs gs) : checkI gs = checkI fs := checkI_perm (stable_perm h)
theorem stable_names {fs gs : List Fi} (h : StableOf Fi.name fs gs) : ∀ f, f ∈ gs ↔ f ∈ fs := fun _ => (stable_perm h).mem_iff
theorem check_parts {fs : List Fi} (h : checkI fs = 0) : (∀ f ∈ fs, nameB f.name = true) ∧ (fs.map Fi.name).Nodup ∧ fs.length ≤ 200 ∧ (∀ f ∈ fs, f.mode ≤ 4095) ∧ total fs ≤ 2097152 := by
  unfold checkI at h
  split at h
  · rename_i h1
    split at h
    · cases h
    · rename_i h2
      simp only [Bool.or_eq_true, decide_eq_true_eq, not_or] at h2
      obtain ⟨a, b, _⟩ := (namesOk_iff fs []).1 h1
      refine ⟨a, b, by omega, fun f hf => ?_, by omega⟩
      have h3 := h2.1.2
      unfold wide at h3
      rw [List.any_eq_true] at h3
      have : ¬ (4095 < f.mode) := fun hq => h3 ⟨f, hf, decide_eq_true hq⟩
      omega
  · cases h
/-- what the laws' guard lets in -/
def FewOk (fs : List Fi) : Prop := fs.length ≤ 60 ∧ ∀ f ∈ fs, f.name.size ≤ 200 ∧ f.body.length ≤ 500
theorem FewOk.perm {fs gs : List Fi} (h : FewOk fs) (p : gs.Perm fs) : FewOk gs := ⟨by rw [p.length_eq]; exact h.1, fun f hf => h.2 f (p.mem_iff.1 hf)⟩
theorem FewOk.body {fs : List Fi} (h : FewOk fs) : ∀ f ∈ fs, f.body.length ≤ 1000000 := fun f hf => by have := (h.2 f hf).2; omega
theorem FewOk.name {fs : List Fi} (h : FewOk fs) : ∀ f ∈ fs, f.name.size ≤ 1000000 := fun f hf => by have := (h.2 f hf).1; omega
theorem FewOk.enc {fs : List Fi} (h : FewOk fs) (hok : ∀ f ∈ fs, FOk f) (hc : checkI fs = 0) : ∀ f ∈ fs, FEnc f := fun f hf =>
  ⟨hok f hf, by have := (h.2 f hf).1; omega, by have := (h.2 f hf).2; omega, (check_parts hc).2.2.2.1 f hf⟩
theorem few_heads : ∀ (fs : List Fi), (∀ f ∈ fs, FOk f) → (∀ f ∈ fs, f.name.size ≤ 200 ∧ f.body.length ≤ 500) → (headsB fs).length ≤ fs.length * 240 ∧ (bodiesB fs).length ≤ fs.length * 500
  | [], _, _ => by simp [headsB, bodiesB]
  | f :: fs, h, hs => by
    obtain ⟨i1, i2⟩ := few_heads fs (fun g hg => h g (by simp [hg])) (fun g hg => hs g (by simp [hg]))
    have hf := h f (by simp)
    obtain ⟨s1, s2⟩ := hs f (by simp)
    have h1 := numb64 (n := f.name.size) (by omega)
    have h2 := numb64 (n := f.mode.toNat) (by have := hf.mode; omega)
    have h3 := numb64 (zig_lt hf.time.1 hf.time.2)
    have h4 := numb64 (n := f.body.length) (by omega)
    have e1 : (headsB (f :: fs)).length = (headB f).length + (headsB fs).length := by simp [headsB]
    have e2 : (bodiesB (f :: fs)).length = f.body.length + (bodiesB fs).length := by simp [bodiesB]
    have e3 : (headB f).length ≤ 240 := by
      unfold headB
      simp only [List.length_append, length_nums]
      omega
    rw [e1, e2, List.length_cons]
    omega
theorem FewOk.len {fs : List Fi} (h : FewOk fs) (hok : ∀ f ∈ fs, FOk f) : (encB fs).length ≤ 50000 := by
  obtain ⟨i1, i2⟩ := few_heads fs hok h.2
  have := h.1
  have h1 := numb64 (n := fs.length) (by omega)
  unfold encB
  simp only [List.length_append]
  omega
/-- Decode of what Encode wrote -/
theorem decP_sorted {fs gs : List Fi} (h : FewOk fs) (hok : ∀ f ∈ fs, FOk f) (hc : checkI fs = 0) (hs : StableOf Fi.name fs gs) : decP (encB gs) = some gs ∧ Bts (encB gs) ∧ (encB gs).length ≤ 50000 := by
  have hp := stable_perm hs
  have hok' : ∀ f ∈ gs, FOk f := fun f hf => hok f (hp.mem_iff.1 hf)
  have hc' : checkI gs = 0 := (checkI_stable hs).trans hc
  have he := (h.perm hp).enc hok' hc'
  have := decP_enc (ys := []) he (by have := (h.perm hp).1; omega) bts_nil
  rw [List.append_nil, if_pos ⟨rfl, (adj_srt gs).2 hs.1, hc'⟩] at this
  exact ⟨this, encB_bts he, (h.perm hp).len hok'⟩
theorem find_in {fs : List Fi} (hn : (fs.map Fi.name).Nodup) {f : Fi} (hf : f ∈ fs) : fs.find? (fun g => decide (g.name = f.name)) = some f := by
  induction fs with
  | nil => cases hf
  | cons g fs ih =>
    rw [List.map_cons, List.nodup_cons] at hn
    rcases List.mem_cons.1 hf with rfl | hf
    · rw [List.find?_cons_of_pos (by simp)]
    · rw [List.find?_cons_of_neg]
      · exact ih hn.2 hf
      · simp only [decide_eq_true_eq]
        intro e
        exact hn.1 (List.mem_map.2 ⟨f, hf, e.symm⟩)
/-- one name each: an order of the names is the order -/
theorem stable_any {fs gs hs : List Fi} (hn : (fs.map Fi.name).Nodup) (p : hs.Perm fs) (h : StableOf Fi.name fs gs) : StableOf Fi.name hs gs := by
  refine ⟨h.1, fun k => ?_⟩
  rw [h.2 k]
  have key : ∀ (l : List Fi), (l.map Fi.name).Nodup → l.filter (fun x => decide (Fi.name x = k)) = (match l.find? (fun g => decide (g.name = k)) with | some f => [f] | none => []) := by
    intro l hl
    induction l with
    | nil => rfl
    | cons g l ih =>
      rw [List.map_cons, List.nodup_cons] at hl
      by_cases hg : g.name = k
      · rw [List.filter_cons_of_pos (by simp [hg]), List.find?_cons_of_pos (by simp [hg])]
        have : l.filter (fun x => decide (Fi.name x = k)) = [] := by
          rw [List.filter_eq_nil_iff]
          intro x hx
          simp only [decide_eq_true_eq]
          intro e
          exact hl.1 (List.mem_map.2 ⟨x, hx, e.trans hg.symm⟩)
        rw [this]
      · rw [List.filter_cons_of_neg (by simp [hg]), List.find?_cons_of_neg (by simp [hg])]
        exact ih hl.2
  have p2 := p.filter (fun x => decide (Fi.name x = k))
  have hn2 : (hs.map Fi.name).Nodup := (p.map _).nodup_iff.2 hn
  rw [key fs hn, key hs hn2] at p2 ⊢
  rcases h1 : fs.find? (fun g => decide (g.name = k)) with _ | f <;> rcases h2 : hs.find? (fun g => decide (g.name = k)) with _ | g <;> rw [h1, h2] at p2 ⊢ <;> simp_all
end Go.Proofs.YtlgonkopojancaaDoor
namespace Go.Proofs.YtlgonkopojancaaDoor
open Go.RowKit

structure St (w0 : World) (m : Int) (w : World) : Prop where
  bel : Below w0.heap.size w0 w
  mx : w.cell? ⟨0, 0, none⟩ = some (.int .i64 m)
theorem St.refl {w : World} {m : Int} (h : w.cell? ⟨0, 0, none⟩ = some (.int .i64 m)) : St w m w := ⟨Below.refl _ _, h⟩
theorem St.step {w0 w w' : World} {m : Int} (h : St w0 m w) (b : Below w.heap.size w w') : St w0 m w' :=
  ⟨h.bel.trans (b.mono h.bel.size), (b.cell (p := ⟨0, 0, none⟩) (World.block_lt_of_cell? w _ h.mx)).trans h.mx⟩
theorem below_same {w w' : World} (h : Same w w') : Below w.heap.size w w' := below_fr h
theorem FRd.below {w w' : World} {A : Option Addr} {n : Nat} {fs : List Fi} (h : FRd w A n fs) (b : Below w.heap.size w w') : FRd w' A n fs := h.same b
theorem awake_told {w0 w : World} {m : Int} (st : St w0 m w) : Calls Tryd.prog 11 #[] w fun e w' => e = .returned (.bool true) ∧ St w0 m w' ∧ Below w.heap.size w w' :=
  (awake_any m w st.mx).mono fun _ _ ⟨h, b⟩ => ⟨h, st.step b, b⟩
theorem few_told {w0 w : World} {m : Int} {fs : List Fi} {A : Option Addr} {n c : Nat} (st : St w0 m w) (hf : FRd w A n fs) (hok : ∀ f ∈ fs, FOk f) {B : Bool} (hB : fewB fs = B) :
    Calls Tryd.prog 12 #[.slice A n c] w fun e w' => e = .returned (.bool B) ∧ St w0 m w' ∧ Below w.heap.size w w' :=
  (few_any fs A n c w hf (fun f h => (hok f h).name)).mono fun _ _ ⟨h, b⟩ => ⟨hB ▸ h, st.step (below_same b), below_same b⟩
theorem few_ok {fs : List Fi} (h : fewB fs = true) : FewOk fs := by
  unfold fewB at h
  rw [Bool.and_eq_true, List.all_eq_true] at h
  exact ⟨of_decide_eq_true h.1, fun f hf => by
    have := h.2 f hf
    rw [Bool.and_eq_true] at this
    exact ⟨of_decide_eq_true this.1, of_decide_eq_true this.2⟩⟩
/-- bytes at hand -/
def Rd (w : World) (A : Option Addr) (n c : Nat) (xs : List Int) : Prop := Reads w .u8 A n xs ∧ n ≤ c ∧ c ≤ 9223372036854775807
theorem Rd.below {w w' : World} {A : Option Addr} {n c : Nat} {xs : List Int} (h : Rd w A n c xs) (b : Below w.heap.size w w') : Rd w' A n c xs := ⟨h.1.same b, h.2⟩
theorem enc_err {w0 w : World} {m : Int} {fs : List Fi} {A : Option Addr} {n c : Nat} {ck : Int} (st : St w0 m w) (hf : FRd w A n fs) (hw : FewOk fs) (hok : ∀ f ∈ fs, FOk f) (hc : checkI fs = ck) (h0 : ck ≠ 0) :
    Calls Tryd.prog 13 #[.slice A n c] w fun e w' => e = .returned (.tuple #[.slice none 0 0, .int .i64 ck]) ∧ St w0 m w' ∧ Below w.heap.size w w' :=
  (encode_any fs A n c m w st.mx hf (by have := hf.1; have := hw.1; omega) (fun h => stable_calls n (by omega)) hok hw.body hw.name).mono fun _ _ ⟨h, b⟩ => by
    subst hc
    exact ⟨h.1 h0, st.step b, b⟩
theorem enc_told {w0 w : World} {m : Int} {fs : List Fi} {A : Option Addr} {n c : Nat} (st : St w0 m w) (hf : FRd w A n fs) (hn : n ≤ 200) (hb : ∀ f ∈ fs, f.body.length ≤ 1000000) (hs : ∀ f ∈ fs, f.name.size ≤ 1000000) (hok : ∀ f ∈ fs, FOk f) (hc : checkI fs = 0) :
    Calls Tryd.prog 13 #[.slice A n c] w fun e w' => ∃ gs A' c', e = .returned (.tuple #[.slice A' (encB gs).length c', .int .i64 0]) ∧ StableOf Fi.name fs gs ∧ Rd w' A' (encB gs).length c' (encB gs) ∧ St w0 m w' ∧ Below w.heap.size w w' :=
  (encode_any fs A n c m w st.mx hf (by omega) (fun h => stable_calls n (by omega)) hok hb hs).mono fun _ _ ⟨h, b⟩ => by
    obtain ⟨v, gs, rfl, h1, h2, _⟩ := h.2 hc
    obtain ⟨A', c', rfl, hr⟩ := own_reads h2
    exact ⟨gs, A', c', rfl, h1, ⟨hr, own_cap h2⟩, st.step b, b⟩
theorem dec_err {w0 w : World} {m : Int} {xs : List Int} {A : Option Addr} {n c : Nat} (st : St w0 m w) (hr : Rd w A n c xs) (hb : Bts xs) (hn : n ≤ 1000000) (hd : decP xs = none) :
    Calls Tryd.prog 27 #[.slice A n c] w fun e w' => e = .returned (.tuple #[.slice none 0 0, .int .i64 162]) ∧ St w0 m w' ∧ Below w.heap.size w w' :=
  (dec_any A n c xs m w st.mx hr.1 hr.2.1 hr.2.2 hb hn).mono fun _ _ ⟨h, b⟩ => by
    unfold DecPost at h
    rw [hd] at h
    exact ⟨h, st.step b, b⟩
theorem dec_told {w0 w : World} {m : Int} {xs : List Int} {gs : List Fi} {A : Option Addr} {n c : Nat} (st : St w0 m w) (hr : Rd w A n c xs) (hb : Bts xs) (hn : n ≤ 1000000) (hd : decP xs = some gs) (hl : gs.length ≤ 200) :
    Calls Tryd.prog 27 #[.slice A n c] w fun e w' => ∃ A' c', e = .returned (.tuple #[.slice A' gs.length c', .int .i64 0]) ∧ FRd w' A' gs.length gs ∧ St w0 m w' ∧ Below w.heap.size w w' :=
  (dec_any A n c xs m w st.mx hr.1 hr.2.1 hr.2.2 hb hn).mono fun _ _ ⟨h, b⟩ => by
    unfold DecPost at h
    rw [hd] at h
    obtain ⟨v, vs, rfl, hvs, ho, _, hbo⟩ := h
    obtain ⟨A', c', rfl, hf⟩ := decoded_rd (by omega) hvs ho hbo
    exact ⟨A', c', rfl, hf, st.step b, b⟩
theorem sort_told {w0 w : World} {m : Int} {fs : List Fi} {A : Option Addr} {n c : Nat} (st : St w0 m w) (hf : FRd w A n fs) (hn : n ≤ 200) (hb : ∀ f ∈ fs, f.body.length ≤ 1000000) :
    Calls Tryd.prog 16 #[.slice A n c] w fun e w' => ∃ gs A' c', e = .returned (.slice A' n c') ∧ StableOf Fi.name fs gs ∧ FRd w' A' n gs ∧ St w0 m w' ∧ Below w.heap.size w w' :=
  (sort_walk fs A n c w hf (by omega) hb (stable_calls n (by omega))).mono fun _ _ ⟨v, vs, h, ho, _, b, hbo, hs⟩ => by
    subst h
    obtain ⟨A', c', rfl, hv⟩ := own_vrd ho (by omega)
    exact ⟨vs.map FV.f, A', c', rfl, hs, hv.files hbo, st.step b, b⟩
theorem same_told {w0 w : World} {m : Int} {fs gs : List Fi} {A A' : Option Addr} {n c n' c' : Nat} {B : Bool} (st : St w0 m w) (hf : FRd w A n fs) (hg : FRd w A' n' gs) (h1 : ∀ f ∈ fs, Bts f.body) (h2 : ∀ f ∈ gs, Bts f.body) (hB : decide (fs = gs) = B) :
    Calls Tryd.prog 15 #[.slice A n c, .slice A' n' c'] w fun e w' => e = .returned (.bool B) ∧ St w0 m w' ∧ Below w.heap.size w w' :=
  (same_any fs gs A n c A' n' c' w hf hg h1 h2).mono fun _ _ ⟨h, b⟩ => ⟨hB ▸ h, st.step b, b⟩
theorem check_told {w0 w : World} {m : Int} {fs : List Fi} {A : Option Addr} {n c : Nat} {ck : Int} (st : St w0 m w) (hf : FRd w A n fs) (hn : n ≤ 1000000) (hb : ∀ f ∈ fs, f.body.length ≤ 1000000) (hok : ∀ f ∈ fs, FOk f) (hc : checkI fs = ck) :
    Calls Tryd.prog 23 #[.slice A n c] w fun e w' => e = .returned (.int .i64 ck) ∧ St w0 m w' ∧ Below w.heap.size w w' :=
  (check_any fs A n c m w st.mx hf hn hb (fun f h => (hok f h).name)).mono fun _ _ ⟨h, b⟩ => ⟨hc ▸ h, st.step b, b⟩
theorem stable_ok {P : Fi → Prop} {fs gs : List Fi} (h : StableOf Fi.name fs gs) (hp : ∀ f ∈ fs, P f) : ∀ f ∈ gs, P f := fun f hf => hp f ((stable_names h f).1 hf)
end Go.Proofs.YtlgonkopojancaaDoor
