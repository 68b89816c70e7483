/- The walk of Decode. -/
import Derived.Test.YtlgonkopojancaaDoorFxDecP
namespace Go.Proofs.YtlgonkopojancaaDoor
open Go.RowKit

/-- bodies, each in a row of its own from B on -/
def BodO (B : Nat) (w : World) (vs : List FV) : Prop := ∀ v ∈ vs, w.ownsRow 0 5 1 (.slice v.A v.n v.c) v.n (bts v.f.body) ∧ From B (.slice v.A v.n v.c)
/-- what Decode leaves -/
def DecPost (B : Nat) (xs : List Int) (e : Ending) (w' : World) : Prop :=
  match decP xs with
  | some gs => ∃ v vs, e = .returned (.tuple #[v, .int .i64 0]) ∧ vs.map FV.f = gs ∧ w'.ownsRow 0 33 4 v gs.length (flat vs) ∧ From B v ∧ BodO B w' vs
  | none => e = .returned (.tuple #[.slice none 0 0, .int .i64 162])
theorem dec_none {B : Nat} {xs : List Int} {w' : World} (h : decP xs = none) : DecPost B xs (.returned (.tuple #[.slice none 0 0, .int .i64 162])) w' := by
  unfold DecPost; rw [h]

theorem dec_leaves {R : Ending → World → Prop} {tmps : Array Value} {r1 r2 : Nat} {w' : World} {x y : Value} (ht2 : tmps[2]?.getD undef = .pointer (some ⟨r1, 0, none⟩)) (ht3 : tmps[3]?.getD undef = .pointer (some ⟨r2, 0, none⟩))
    (h1 : w'.heap[r1]? = some (.cells #[x] 23 (0, 0))) (h2 : w'.heap[r2]? = some (.cells #[y] 26 (0, 0))) (hne : r1 ≠ r2)
    (hR : R (.returned (.tuple #[.slice none 0 0, .int .i64 162])) ((w'.setCell ⟨r1, 0, none⟩ (.slice none 0 0)).setCell ⟨r2, 0, none⟩ (.int .i64 162))) :
    Leaves Tryd.prog Tryd.f27 tmps R [{ target := .fn (.func 43) #[.pointer (some ⟨r1, 0, none⟩), .pointer (some ⟨r2, 0, none⟩)], args := #[] }] (.panicking EIX) w' := by
  refine leaves_cons (f := 43) (args := #[.pointer (some ⟨r1, 0, none⟩), .pointer (some ⟨r2, 0, none⟩)]) (by simp) (by simp [go_sem]) ?_
  refine (catch_panic r1 r2 w' x y h1 h2 hne).mono ?_
  rintro e u' w'' ⟨rfl, rfl, rfl⟩
  have b1 := blk_far (blk_set h1 0 (.slice none 0 0)) (p := ⟨r2, 0, none⟩) hne (.int .i64 162)
  have b2 := blk_set (blk_far h2 (p := ⟨r1, 0, none⟩) (fun e => hne e.symm) (.slice none 0 0)) 0 (.int .i64 162)
  have c1 := blk_cell b1 0
  have c2 := blk_cell b2 0
  simp at c1 c2
  have hr : (results Tryd.f27 tmps).run Tryd.prog ((w'.setCell ⟨r1, 0, none⟩ (.slice none 0 0)).setCell ⟨r2, 0, none⟩ (.int .i64 162)) = .ok (.tuple #[.slice none 0 0, .int .i64 162]) ((w'.setCell ⟨r1, 0, none⟩ (.slice none 0 0)).setCell ⟨r2, 0, none⟩ (.int .i64 162)) := by
    simp [results, Tryd.results27, go_sem, ht2, ht3, c1, c2]
  exact ⟨_, hr, hR⟩
theorem dec_leaves_ok {R : Ending → World → Prop} {tmps : Array Value} {r1 r2 : Nat} {w' : World} {x y : Value} (ht2 : tmps[2]?.getD undef = .pointer (some ⟨r1, 0, none⟩)) (ht3 : tmps[3]?.getD undef = .pointer (some ⟨r2, 0, none⟩))
    (h1 : w'.heap[r1]? = some (.cells #[x] 23 (0, 0))) (h2 : w'.heap[r2]? = some (.cells #[y] 26 (0, 0)))
    (hR : R (.returned (.tuple #[x, y])) w') :
    Leaves Tryd.prog Tryd.f27 tmps R [{ target := .fn (.func 43) #[.pointer (some ⟨r1, 0, none⟩), .pointer (some ⟨r2, 0, none⟩)], args := #[] }] .returning w' := by
  refine leaves_cons (f := 43) (args := #[.pointer (some ⟨r1, 0, none⟩), .pointer (some ⟨r2, 0, none⟩)]) (by simp) (by simp [go_sem]) ?_
  refine (catch_idle r1 r2 w').mono ?_
  rintro e u' w'' ⟨rfl, rfl, rfl⟩
  have c1 := blk_cell h1 0
  have c2 := blk_cell h2 0
  simp at c1 c2
  have hr : (results Tryd.f27 tmps).run Tryd.prog w'' = .ok (.tuple #[x, y]) w'' := by
    simp [results, Tryd.results27, go_sem, ht2, ht3, c1, c2]
  exact ⟨_, hr, hR⟩

/-- a way out hangs on the frame by its results alone -/
theorem leaves_tmps {R : Ending → World → Prop} {t1 t2 : Array Value} (h : results Tryd.f27 t1 = results Tryd.f27 t2) : ∀ (ds : List Deferred) (u : FrameMode) (w : World), Leaves Tryd.prog Tryd.f27 t1 R ds u w → Leaves Tryd.prog Tryd.f27 t2 R ds u w
  | [], u, w, hl => by
    cases u with
    | run => exact hl
    | returning =>
      obtain ⟨v, hr, hR⟩ := hl
      exact ⟨v, h ▸ hr, hR⟩
    | panicking chain => exact hl
  | d :: ds, u, w, hl => by
    obtain ⟨hu, fv, cap, f, args, ht, hi, hc⟩ := hl
    refine ⟨hu, fv, cap, f, args, ht, hi, hc.mono ?_⟩
    intro e u' w' he
    cases e with
    | returned v => exact leaves_tmps h ds _ _ he
    | panicked chain => exact leaves_tmps h ds _ _ he
    | outgrown => exact he
theorem hang27 (d : Nat) (h2 : d ≠ 2) (h3 : d ≠ 3) {a : Act} {v : Value} {w : World} {c : List PanicEntry} {R : Ending → World → Prop} (h : bodyPostD Tryd.prog Tryd.f27 R (.panic c) (a.put (some d) v) w) : bodyPostD Tryd.prog Tryd.f27 R (.panic c) a w := by
  refine leaves_tmps (t1 := a.tmps.setIfInBounds d v) ?_ _ _ _ h
  have e2 : (a.tmps.setIfInBounds d v)[2]?.getD undef = a.tmps[2]?.getD undef := by rw [Array.getElem?_setIfInBounds_ne h2]
  have e3 : (a.tmps.setIfInBounds d v)[3]?.getD undef = a.tmps[3]?.getD undef := by rw [Array.getElem?_setIfInBounds_ne h3]
  simp [results, Tryd.results27, e2, e3]
theorem filesP_len : ∀ (k : Nat) (xs : List Int) (fs : List Fi) (zs : List Nat) (r : List Int), filesP k xs = some (fs, zs, r) → fs.length = k ∧ zs.length = k
  | 0, xs, fs, zs, r, h => by
    rw [filesP] at h
    injection h with h
    injection h with h1 h
    injection h with h2 h
    subst h1; subst h2
    exact ⟨rfl, rfl⟩
  | k + 1, xs, fs, zs, r, h => by
    rw [filesP] at h
    rcases h1 : fileP xs with _ | ⟨f, z, r1⟩
    · rw [h1] at h; cases h
    · rw [h1] at h
      simp only at h
      rcases h2 : filesP k r1 with _ | ⟨fs', zs', r'⟩
      · rw [h2] at h; cases h
      · rw [h2] at h
        simp only at h
        injection h with h
        injection h with h3 h
        injection h with h4 h
        obtain ⟨h5, h6⟩ := filesP_len k r1 fs' zs' r' h2
        subst h3; subst h4
        exact ⟨by simp [h5], by simp [h6]⟩

/-- while the bodies are read: j of k files have theirs -/
structure Bds (g : Nat) (w : World) (Al As A : Option Addr) (kl ks n c k j : Nat) (xs : List Int) (fs : List Fi) (zs : List Nat) (vs : List FV) : Prop where
  rb : RB w g (.slice A n c) (.slice Al k kl) (.slice As k ks)
  src : Src w g A n c xs
  ol : w.ownsRow 0 33 4 (.slice Al k kl) k (flat (vs ++ (fs.drop j).map bareV))
  os : w.ownsRow 0 47 1 (.slice As k ks) k (u64s zs)
  low : ∀ b, A.map (·.block) = some b → b < g
  fl : From g (.slice Al k kl)
  bod : BodO g w vs
  len : vs.length = j
namespace Bds
variable {g : Nat} {w w' : World} {Al As A : Option Addr} {kl ks n c k j : Nat} {xs : List Int} {fs : List Fi} {zs : List Nat} {vs : List FV}
theorem ne5 (h : Bds g w Al As A kl ks n c k j xs fs zs vs) {v : FV} (hv : v ∈ vs) : (Value.slice v.A v.n v.c).ownBlock ≠ some g := own_ne (h.bod v hv).1 h.rb (by decide)
theorem drew (h : Bds g w Al As A kl ks n c k j xs fs zs vs) : Bds g w.drew Al As A kl ks n c k j xs fs zs vs := ⟨h.rb, h.src.same (Below.refl _ _).drew, h.ol, h.os, h.low, h.fl, h.bod, h.len⟩
theorem same (h : Bds g w Al As A kl ks n c k j xs fs zs vs) (f : Same w w') : Bds g w' Al As A kl ks n c k j xs fs zs vs :=
  ⟨h.rb.fr f (fun e => e), h.src.same (below_fr f), f.own h.ol (fun _ _ e => e), f.own h.os (fun _ _ e => e), h.low, h.fl, fun v hv => ⟨f.own (h.bod v hv).1 (fun _ _ e => e), (h.bod v hv).2⟩, h.len⟩
theorem took (h : Bds g w Al As A kl ks n c k j xs fs zs vs) {N : Nat} (t : Took w w' g A n c N xs (.slice Al k kl) (.slice As k ks)) : Bds g w' Al As (rest A N c) kl ks (n - N) (c - N) k j (xs.drop N) fs zs vs :=
  ⟨t.rb, t.src, t.fr.own h.ol (fun q hq e => own_ne h.ol h.rb (by decide) (by rw [hq, e])), t.fr.own h.os (fun q hq e => own_ne h.os h.rb (by decide) (by rw [hq, e])), fun b hb => h.low b (rest_block ▸ hb), h.fl,
    fun v hv => ⟨t.fr.own (h.bod v hv).1 (fun q hq e => h.ne5 hv (by rw [hq, e])), (h.bod v hv).2⟩, h.len⟩
theorem put (h : Bds g w Al As A kl ks n c k j xs fs zs vs) {gl : Nat} (hA : Al = some ⟨gl, 0, none⟩) (hj : j < k) (hfs : fs.length = k) {A' : Option Addr} {n' c' : Nat} {b : List Int} (ho : w.ownsRow 0 5 1 (.slice A' n' c') n' (bts b)) (hf : From g (.slice A' n' c')) :
    Bds g (w.setCell ⟨gl, j * 4 + 3, none⟩ (.slice A' n' c')) Al As A kl ks n c k (j + 1) xs fs zs (vs ++ [⟨{ fs.getD j default with body := b }, A', n', c'⟩]) := by
  subst hA
  have hlj : j < fs.length := by omega
  have hob : (Value.slice (some ⟨gl, 0, none⟩) k kl).ownBlock = some gl := rfl
  have hgl : gl ≠ g := fun e => own_ne h.ol h.rb (by decide) (by rw [hob, e])
  have hgg : g ≤ gl := h.fl gl hob
  have hgr := (h.ol.stored (j * 4 + 3) (.slice A' n' c')).1
  have hlow : Below g w (w.setCell ⟨gl, j * 4 + 3, none⟩ (.slice A' n' c')) := (Below.refl _ _).setCell (p := ⟨gl, j * 4 + 3, none⟩) hgg _
  refine ⟨blk_far h.rb (p := ⟨gl, j * 4 + 3, none⟩) (fun e => hgl e.symm) _, ⟨h.src.rd.below hlow (fun _ b hb => h.low b hb), h.src.cap, h.src.cap63, h.src.far⟩, ?_, ?_, h.low, h.fl, ?_, by simp [h.len]⟩
  · have e1 : vs ++ (fs.drop j).map bareV = (vs ++ [bareV (fs.getD j default)]) ++ (fs.drop (j + 1)).map bareV := by
      rw [drop_cons hlj, List.map_cons, List.append_assoc]
      rfl
    have e2 : flat ((vs ++ [(⟨{ fs.getD j default with body := b }, A', n', c'⟩ : FV)]) ++ (fs.drop (j + 1)).map bareV) = (flat (vs ++ (fs.drop j).map bareV)).set (j * 4 + 3) (.slice A' n' c') := by
      rw [e1]
      simp only [flat_append, List.append_assoc]
      rw [List.set_append_right _ _ (by rw [length_flat, h.len]; omega), length_flat, h.len, show j * 4 + 3 - j * 4 = 3 by omega]
      rfl
    rw [e2]
    exact hgr
  · exact ownsRow_setCell_other h.os (a := ⟨gl, j * 4 + 3, none⟩) (fun e => own_own_ne h.ol h.os (by decide) hob e) _
  · intro v hv
    rcases List.mem_append.1 hv with hv | hv
    · exact ⟨ownsRow_setCell_other (h.bod v hv).1 (a := ⟨gl, j * 4 + 3, none⟩) (fun e => own_own_ne h.ol (h.bod v hv).1 (by decide) hob e) _, (h.bod v hv).2⟩
    · simp at hv
      subst hv
      exact ⟨ownsRow_setCell_other ho (a := ⟨gl, j * 4 + 3, none⟩) (fun e => own_own_ne h.ol ho (by decide) hob e) _, hf⟩
theorem cell3 (h : Bds g w Al As A kl ks n c k j xs fs zs vs) {gl : Nat} (hA : Al = some ⟨gl, 0, none⟩) (hj : j < k) (hfs : fs.length = k) : w.cell? ⟨gl, j * 4 + 3, none⟩ = some (.slice none 0 0) ∧ w.frozen? ⟨gl, j * 4 + 3, none⟩ = false := by
  subst hA
  have hlj : j < fs.length := by omega
  have q := h.ol.cellAt (j * 4 + 3) (by omega)
  have hl : (vs ++ (fs.drop j).map bareV).length = k := by simp [h.len]; omega
  have he : (vs ++ (fs.drop j).map bareV).getD j default = bareV (fs.getD j default) := by
    rw [List.getD_eq_getElem?_getD, List.getElem?_append_right (by rw [h.len]; exact Nat.le_refl _), h.len, Nat.sub_self, drop_cons hlj]
    rfl
  rw [flat_at _ j (by omega) 3 (.slice none 0 0) (by rw [he]; rfl)] at q
  exact ⟨q, h.ol.frozenAt (j * 4 + 3)⟩
end Bds

theorem bodO_bod {B : Nat} {w : World} {vs : List FV} (h : BodO B w vs) : Bod w vs := fun v hv => by
  obtain ⟨A, c, e, hr⟩ := own_reads (h v hv).1
  injection e with e1 e2 e3
  rw [e1]
  exact hr
theorem BodO.same {B : Nat} {w w' : World} {vs : List FV} (h : BodO B w vs) (f : Same w w') : BodO B w' vs := fun v hv => ⟨f.own (h v hv).1 (fun _ _ e => e), (h v hv).2⟩
theorem BodO.set {B : Nat} {w : World} {vs : List FV} (h : BodO B w vs) {a : Addr} (u : Value) (ha : a.block < B) : BodO B (w.setCell a u) vs := fun v hv => ⟨ownsRow_setCell_other (h v hv).1 (fun e => by have := (h v hv).2 _ e; omega) u, (h v hv).2⟩
theorem BodO.mono {B B' : Nat} {w : World} {vs : List FV} (h : BodO B w vs) (hb : B' ≤ B) : BodO B' w vs := fun v hv => ⟨(h v hv).1, fun j hj => Nat.le_trans hb ((h v hv).2 j hj)⟩

set_option maxRecDepth 20000 in
set_option maxHeartbeats 4000000 in
theorem dec_any (A : Option Addr) (n c : Nat) (xs : List Int) (m : Int) (w : World) (hm : w.cell? ⟨0, 0, none⟩ = some (.int .i64 m)) (hr : Reads w .u8 A n xs) (hc : n ≤ c) (hc63 : c ≤ 9223372036854775807) (hb : Bts xs) (hn : n ≤ 1000000) :
    Calls Tryd.prog 27 #[.slice A n c] w fun e w' => DecPost w.heap.size xs e w' ∧ Below w.heap.size w w' := by
  have hmf : ∀ (fn : Fn) (first cap : Array Value) (w : World), (Instr.makeFunc fn first cap).run Tryd.prog w = .ok (.func fn first cap) w := fun _ _ _ _ => rfl
  have HR := Lib.hid hr; have HB := Lib.hid hb; have HM := Lib.hid hm; clear hr hb hm
  go_enter_defers Tryd.func27, Tryd.ntmps27
  go_wp2_with fail
  obtain ⟨h0, hh0⟩ : ∃ h, w.heap.size = h := ⟨_, rfl⟩
  obtain ⟨g, hgg⟩ : ∃ g, h0 + 1 + 1 = g := ⟨_, rfl⟩
  obtain ⟨W0, hW0⟩ : ∃ W, ((w.alloc (.cells #[.slice none 0 0] 23)).alloc (.cells #[.int .i64 0] 26)).alloc (.cells #[.slice A n c, .slice none 0 0, .slice none 0 0] 67) = W := ⟨_, rfl⟩
  have hS : Same w W0 := by rw [← hW0]; exact (((Fr.refl _ w).alloc _).alloc _).alloc _
  have b1 : W0.heap[h0]? = some (.cells #[.slice none 0 0] 23 (0, 0)) := by rw [← hW0, ← hh0]; exact blk_alloc (blk_alloc (blk_new w _) _) _
  have b2 : W0.heap[h0 + 1]? = some (.cells #[.int .i64 0] 26 (0, 0)) := by
    rw [← hW0, ← hh0, ← World.size_alloc w (.cells #[.slice none 0 0] 23)]
    exact blk_alloc (blk_new _ _) _
  have b3 : RB W0 g (.slice A n c) (.slice none 0 0) (.slice none 0 0) := by
    have := blk_new ((w.alloc (.cells #[.slice none 0 0] 23)).alloc (.cells #[.int .i64 0] 26)) (.cells #[.slice A n c, .slice none 0 0, .slice none 0 0] 67)
    rw [hW0, World.size_alloc, World.size_alloc, hh0, hgg] at this
    exact this
  have hsrc : Src W0 g A n c xs := ⟨HR.out.same (below_fr hS), hc, hc63, fun hz e => by have := HR.out.lt hz e; omega⟩
  have PAN : ∀ w' tmps, Below g W0 w' → tmps[2]?.getD undef = .pointer (some ⟨h0, 0, none⟩) → tmps[3]?.getD undef = .pointer (some ⟨h0 + 1, 0, none⟩) → decP xs = none →
      Leaves Tryd.prog Tryd.f27 tmps (fun e w' => DecPost w.heap.size xs e w' ∧ Below w.heap.size w w') [{ target := .fn (.func 43) #[.pointer (some ⟨h0, 0, none⟩), .pointer (some ⟨h0 + 1, 0, none⟩)], args := #[] }] (.panicking EIX) w' := by
    intro w' tmps hw ht2 ht3 hd
    have d1 := (hw.block h0 (by omega)).trans b1
    have d2 := (hw.block (h0 + 1) (by omega)).trans b2
    refine dec_leaves ht2 ht3 d1 d2 (by omega) ⟨dec_none hd, ?_⟩
    have hbw : Below h0 w w' := by
      have h1 := below_fr hS
      rw [hh0] at h1
      exact h1.trans (hw.mono (by omega))
    rw [hh0]
    exact (hbw.setCell (p := ⟨h0, 0, none⟩) (Nat.le_refl _) _).setCell (p := ⟨h0 + 1, 0, none⟩) (Nat.le_succ _) _
  have HPAN := Lib.hid PAN; have HB1 := Lib.hid b1; have HB2 := Lib.hid b2
  have HS : Hid (Below h0 w W0) := by have h1 := below_fr hS; rw [hh0] at h1; exact h1
  rw [hW0, hh0, hgg]
  rcases hN1 : getN xs with _ | ⟨cnt, r1⟩
  · refine (numberS_any g A n c xs _ _ W0 b3 hsrc HB.out).mono ?_
    rintro e w1 ⟨hf, hp⟩
    rw [hN1] at hp
    have hp : e = .panicked EIX := hp
    subst hp
    refine HPAN.out _ _ (hf.below _ (Nat.le_of_lt b3.lt) (fun k hk e => by omega)) ?_ ?_ ?_
    · rfl
    · rfl
    · (unfold decP; rw [hN1])
  have hn0 : 0 < n := by
    have h1 := hsrc.size
    rcases xs with _ | ⟨x, xs⟩
    · cases hN1
    · simp at h1; omega
  have hlow : ∀ b, A.map (·.block) = some b → b < g := fun b hb => by have := HR.out.lt hn0 hb; omega
  have hR0 : Rdr g g W0 A n c xs (.slice none 0 0) (.slice none 0 0) [] [] := ⟨b3, hsrc, World.ownsRow_nil _ _ _ _, World.ownsRow_nil _ _ _ _, hlow, Nat.le_refl _, From.none _ _ _, From.none _ _ _⟩
  have HR0 := Lib.hid hR0
  have HGG := Lib.hid hgg; have HH0 := Lib.hid hh0
  clear PAN hR0 b1 b2 b3 hlow hS hW0 hh0 hsrc hn0 hgg
  refine (rnum_some HR0.out HB.out hN1).mono ?_
  rintro e w1 ⟨rfl, ⟨A1, n1, c1, hr1⟩, hb1⟩
  have HR1 := Lib.hid hr1; have HW1 := Lib.hid hb1; have HN1 := Lib.hid hN1; have HBT1 := Lib.hid (getN_bts HB.out hN1)
  obtain ⟨n0, hn0⟩ : ∃ n0, xs.length = n0 := ⟨_, rfl⟩
  have HLE1 : Hid (r1.length ≤ n0) := (by rw [← hn0]; exact getN_le HB.out hN1 : r1.length ≤ n0)
  have HN0 : Hid (n0 ≤ 1000000) := (by rw [← hn0, HR.out.1]; exact hn : n0 ≤ 1000000)
  clear hn0
  clear hr1 hb1 hN1
  go_wp2_with fail
  by_cases hC : cnt ≤ 200
  case neg =>
    refine (must_no _ _ (by rw [decide_eq_false_iff_not]; omega)).mono ?_
    rintro e w2 ⟨rfl, rfl⟩
    refine HPAN.out _ _ HW1.out ?_ ?_ ?_
    · rfl
    · rfl
    · (unfold decP; simp only [HN1.out, if_neg hC])
  refine (must_yes _ _ (by rw [decide_eq_true_eq]; omega)).mono ?_
  rintro e w2 ⟨rfl, rfl⟩
  go_wp2_with fail
  go_loopw [22] (fun v22 wr => ∃ k : Nat, v22 = .int .u64 k ∧ Hid (k ≤ cnt) ∧ Hid (∃ A n c xs lv sv fs zs, Rdr g g wr A n c xs lv sv fs zs ∧ Bts xs ∧ xs.length ≤ n0 ∧ fs.length = k ∧ zs.length = k ∧ filesP cnt r1 = addF fs zs (filesP (cnt - k) xs)) ∧ Hid (Below g W0 wr)) (fun v22 _ => cnt - (intOf v22).toNat)
  case atStart =>
    refine ⟨0, rfl, Nat.zero_le _, ⟨A1, n1, c1, r1, _, _, [], [], HR1.out, HBT1.out.1, HLE1.out, rfl, rfl, ?_⟩, HW1.out⟩
    rw [Nat.sub_zero]
    rcases filesP cnt r1 with _ | ⟨a, b, d⟩ <;> rfl
  case round =>
    obtain ⟨k, rfl, HK, HST, HBL⟩ := hrel
    obtain ⟨A2, n2, c2, x2, lv, sv, fs, zs, hr2, hbt2, hle2, hfl, hzl, hfp⟩ := HST.out
    have HR2 := Lib.hid hr2; have HBT2 := Lib.hid hbt2; have HFL := Lib.hid hfl; have HZL := Lib.hid hzl; have HFP := Lib.hid hfp; have HLE2 := Lib.hid hle2
    clear hr2 hbt2 hle2 hfl hzl hfp HST
    by_cases hk : (k : Int) < cnt
    · go_wp2_with fail
      rcases hF : fileP x2 with _ | ⟨f, z, r⟩
      · refine (file_any HR2.out HBT2.out (by have := HFL.out; omega) (by have := HZL.out; omega)).mono ?_
        rintro e w3 ⟨hb3, hp3⟩
        rw [hF] at hp3
        have hp3 : e = .panicked EIX := hp3
        subst hp3
        refine HPAN.out _ _ (HBL.out.trans hb3) ?_ ?_ ?_
        · rfl
        · rfl
        · (
          unfold decP
          rw [HN1.out]
          simp only [if_pos hC]
          rw [HFP.out, show cnt - k = cnt - k - 1 + 1 by omega, filesP_fail hF])
      refine (file_any HR2.out HBT2.out (by have := HFL.out; omega) (by have := HZL.out; omega)).mono ?_
      rintro e w3 ⟨hb3, hp3⟩
      rw [hF] at hp3
      obtain ⟨rfl, A3, n3, c3, lv3, sv3, hr3⟩ := hp3
      have HR3 := Lib.hid hr3; have HB3 := Lib.hid hb3; have HF := Lib.hid hF
      clear hr3 hb3 hF
      go_wp2_with fail
      go_roundw
      case rel =>
        refine ⟨k + 1, by go_num, (by omega : k + 1 ≤ cnt), ⟨A3, n3, c3, r, lv3, sv3, fs ++ [f], zs ++ [z], HR3.out, fileP_bts HBT2.out HF.out, Nat.le_trans (fileP_le HBT2.out HF.out) HLE2.out, by have := HFL.out; simp; omega, by have := HZL.out; simp; omega, ?_⟩, HBL.out.trans HB3.out⟩
        rw [HFP.out, show cnt - k = cnt - (k + 1) + 1 by omega, filesP_step HF.out]
      case measure => simp [intOf]; omega
    · have hkn : k = cnt := by have := HK.out; omega
      subst hkn
      have hfp : filesP k r1 = some (fs, zs, x2) := by
        rw [HFP.out, Nat.sub_self, filesP]
        simp [addF]
      have HFS := Lib.hid hfp
      obtain ⟨wo, rfl⟩ : ∃ wo : World, wo = wr := ⟨_, rfl⟩
      have hol := HR2.out.ol
      have hos := HR2.out.os
      rw [HFL.out] at hol
      rw [HZL.out] at hos
      obtain ⟨Al, kl, rfl⟩ := own_shape hol
      obtain ⟨As, ks, rfl⟩ := own_shape hos
      have q2c := HR2.out.rb.c2
      have HB0 : Hid (Bds g wo Al As A2 kl ks n2 c2 k 0 x2 fs zs []) := ⟨HR2.out.rb, HR2.out.src, by simpa using hol, hos, HR2.out.low, HR2.out.fl, fun v hv => by simp at hv, rfl⟩
      clear hfp hol hos
      go_wp2_with fail
      go_loopw [32] (fun v32 wr => ∃ j : Nat, v32 = .int .i64 j ∧ Hid (j ≤ k) ∧ Hid (∃ A n c xs vs, Bds g wr Al As A kl ks n c k j xs fs zs vs ∧ Bts xs ∧ xs.length ≤ n0 ∧ bodiesP fs zs x2 = addB (vs.map FV.f) (bodiesP (fs.drop j) (zs.drop j) xs)) ∧ Hid (Below g W0 wr)) (fun v32 _ => k - (intOf v32).toNat)
      case atStart =>
        refine ⟨0, rfl, Nat.zero_le _, ⟨A2, n2, c2, x2, [], HB0.out, HBT2.out, HLE2.out, ?_⟩, HBL.out⟩
        rw [List.drop_zero, List.drop_zero]
        rcases bodiesP fs zs x2 with _ | ⟨a, b⟩ <;> rfl
      case round =>
        obtain ⟨j, rfl, HJ, HSJ, HBJ⟩ := hrel
        obtain ⟨A3, n3, c3, x3, vs, hb3, hbt3, hle3, hbp⟩ := HSJ.out
        have HB3 := Lib.hid hb3; have HBT3 := Lib.hid hbt3; have HBP := Lib.hid hbp; have HLE3 : Hid (x3.length ≤ 1000000) := Nat.le_trans hle3 HN0.out; have HLE4 := Lib.hid hle3
        clear hb3 hbt3 hle3 hbp HSJ
        by_cases hj : (j : Int) < k
        · obtain ⟨gs, cs, e, hcs⟩ := own_cellsN HB3.out.os (by omega)
          injection e with e1 e2 e3
          subst e1; subst e3
          clear e2
          have hjz : j < zs.length := by have := HZL.out; omega
          have q0 := hcs j (.int .u64 (zs.getD j 0)) (by unfold u64s; rw [List.getElem?_map, List.getD_eq_getElem?_getD, List.getElem?_eq_getElem hjz]; rfl)
          obtain ⟨z, hz⟩ : ∃ z, zs.getD j 0 = z := ⟨_, rfl⟩
          rw [hz] at q0
          have HZ := Lib.hid hz
          obtain ⟨gl, cl, e, _⟩ := own_cellsN HB3.out.ol (by omega)
          injection e with e1 e2 e3
          subst e1; subst e3
          clear e2 hz hcs hjz
          have hbad : ∀ (x3 : List Int) (vs : List FV), cutP z x3 = none → bodiesP fs zs x2 = addB (vs.map FV.f) (bodiesP (fs.drop j) (zs.drop j) x3) → decP xs = none := by
            intro x3 vs hcut hbp
            have hjf : j < fs.length := by have := HFL.out; omega
            have ez : zs.drop j = z :: zs.drop (j + 1) := by
              have := drop_cons (l := zs) (k := j) (by have := HZL.out; omega)
              have h2 := HZ.out
              rw [this, show zs.getD j default = z from h2]
            rw [ez, drop_cons hjf, bodiesP_fail hcut] at hbp
            unfold decP
            simp only [HN1.out, if_pos hC, HFS.out, hbp]
          have BAD := Lib.hid hbad; clear hbad
          have HN3 : Hid (n3 ≤ 1000000) := (by have h1 := HB3.out.src.size; have h2 := HLE3.out; omega : n3 ≤ 1000000)
          have c1 := HB3.out.rb.c1
          have h0j : (0 : Int) ≤ (j : Int) := by omega
          go_wp2_with fail
          refine wp_region_held_drew (S := fun w' => w'.cell? ⟨g, 1, none⟩ = some (.slice (some ⟨gl, 0, none⟩) k kl)) (by kernel_rfl) (by exact HB3.out.rb.c1) (fun hHeld => ?_)
          refine wpAnyH_take (i := 0) (v := ?va1) (idx_of_drop rfl) (by kernel_rfl) (by kernel_rfl) (by kernel_rfl) (fun _ _ _ h => hang27 37 (by decide) (by decide) h) (Or.inl ⟨by rfl, ?ya1⟩) (by assumption) ?ra1
          case ya1 => (intro w hSw; go_simp <;> with_reducible rfl)
          (try simp only [Act.put, List.setIfInBounds_toArray, List.set_cons_zero, List.set_cons_succ])
          refine wpAnyH_take (i := 1) (v := ?va2) (idx_of_drop rfl) (by kernel_rfl) (by kernel_rfl) (by kernel_rfl) (fun _ _ _ h => hang27 38 (by decide) (by decide) h) (Or.inl ⟨by rfl, ?ya2⟩) (by assumption) ?ra2
          case ya2 => (intro w hSw; go_simp <;> with_reducible rfl)
          (try simp only [Act.put, List.setIfInBounds_toArray, List.set_cons_zero, List.set_cons_succ])
          refine wpAnyH_take (i := 2) (v := ?va3) (idx_of_drop rfl) (by kernel_rfl) (by kernel_rfl) (by kernel_rfl) (fun _ _ _ h => hang27 39 (by decide) (by decide) h) (Or.inl ⟨by rfl, ?ya3⟩) (by assumption) ?ra3
          case ya3 => (intro w hSw; go_simp <;> with_reducible rfl)
          (try simp only [Act.put, List.setIfInBounds_toArray, List.set_cons_zero, List.set_cons_succ])
          refine wpAnyH_take (i := 3) (v := ?va4) (idx_of_drop rfl) (by kernel_rfl) (by kernel_rfl) (by kernel_rfl) (fun _ _ _ h => hang27 40 (by decide) (by decide) h) (Or.inl ⟨by rfl, ?ya4⟩) (by assumption) ?ra4
          case ya4 => (intro w hSw; go_simp <;> with_reducible rfl)
          (try simp only [Act.put, List.setIfInBounds_toArray, List.set_cons_zero, List.set_cons_succ])
          refine wpAnyH_take (i := 4) (v := ?va5) (idx_of_drop rfl) (by kernel_rfl) (by kernel_rfl) (by kernel_rfl) (fun _ _ _ h => hang27 41 (by decide) (by decide) h) (Or.inl ⟨by rfl, ?ya5⟩) (by assumption) ?ra5
          case ya5 => (intro w hSw; go_simp <;> with_reducible rfl)
          (try simp only [Act.put, List.setIfInBounds_toArray, List.set_cons_zero, List.set_cons_succ])
          refine wpAnyH_take (i := 5) (v := ?va6) (idx_of_drop rfl) (by kernel_rfl) (by kernel_rfl) (by kernel_rfl) (fun _ _ _ h => hang27 42 (by decide) (by decide) h) (Or.inl ⟨by rfl, ?ya6⟩) (by assumption) ?ra6
          case ya6 => (intro w hSw; go_simp <;> with_reducible rfl)
          (try simp only [Act.put, List.setIfInBounds_toArray, List.set_cons_zero, List.set_cons_succ])
          refine wpAnyH_take (i := 6) (v := ?va7) (idx_of_drop rfl) (by kernel_rfl) (by kernel_rfl) (by kernel_rfl) (fun _ _ _ h => hang27 43 (by decide) (by decide) h) (Or.inl ⟨by rfl, ?ya7⟩) (by assumption) ?ra7
          case ya7 => (intro w hSw; go_simp <;> with_reducible rfl)
          (try simp only [Act.put, List.setIfInBounds_toArray, List.set_cons_zero, List.set_cons_succ])
          refine wpAnyH_take (i := 7) (v := ?va8) (idx_of_drop rfl) (by kernel_rfl) (by kernel_rfl) (by kernel_rfl) (fun _ _ _ h => hang27 44 (by decide) (by decide) h) (Or.inl ⟨by rfl, ?ya8⟩) (by assumption) ?ra8
          case ya8 => (intro w hSw; go_simp <;> with_reducible rfl)
          (try simp only [Act.put, List.setIfInBounds_toArray, List.set_cons_zero, List.set_cons_succ])
          refine wpAnyH_take (i := 8) (v := ?va9) (idx_of_drop rfl) (by kernel_rfl) (by kernel_rfl) (by kernel_rfl) (fun _ _ _ h => hang27 45 (by decide) (by decide) h) (Or.inl ⟨by rfl, ?ya9⟩) (by assumption) ?ra9
          case ya9 => (intro w hSw; go_simp <;> with_reducible rfl)
          (try simp only [Act.put, List.setIfInBounds_toArray, List.set_cons_zero, List.set_cons_succ])
          refine wpAnyH_ready (rs := [9]) (by kernel_rfl) (by simp) ?_
          refine AllReadyH.cons (idx_of_drop rfl) (fun K hK => ?sa10) ?ma10
          case sa10 =>
            go_simp
            by_cases hzl : z ≤ x3.length
            case neg =>
              refine (took_no g A3 n3 c3 z z x3 _ _ _ rfl HB3.out.drew.rb HB3.out.drew.src (by have := HB3.out.src.size; omega)).mono ?_
              rintro e w4 ⟨rfl, rfl⟩
              refine HPAN.out _ _ (HBJ.out.trans (Below.refl _ _).drew) ?_ ?_ ?_
              · rfl
              · rfl
              · exact BAD.out x3 vs (by rw [cutP, if_neg hzl]) HBP.out
            refine (took_any g A3 n3 c3 z z x3 _ _ _ rfl HB3.out.drew.rb HB3.out.drew.src (by have := HB3.out.src.size; omega)).mono ?_
            rintro e w4 ⟨rfl, ht⟩
            have HT := Lib.hid (HB3.out.drew.took ht); have HPC := Lib.hid ht.piece
            have HW4 : Hid (Below g W0 w4) := (HBJ.out.drew).trans (ht.fr.below g (Nat.le_of_lt HB3.out.rb.lt) (fun q hq e => by omega))
            clear ht
            refine hK.out _ _ (by exact HT.out.rb.c1) (fun hHeld => ?_)
            clear hK K
            (try simp only [Act.put, List.setIfInBounds_toArray, List.set_cons_zero, List.set_cons_succ])
            refine wpAnyH_ready (rs := [10]) (by kernel_rfl) (by simp) ?_
            refine AllReadyH.cons (idx_of_drop rfl) (fun K hK => ?sa11) ?ma11
            case sa11 =>
              go_simp
              refine (clone_any A3 z c3 (x3.take z) w4 HPC.out (by have := HB3.out.src.size; have := HN3.out; omega)).mono ?_
              rintro e w5 ⟨v5, rfl, ho5, hf5, hb5⟩
              obtain ⟨A5, c5, rfl⟩ := own_shape ho5
              have HT5 := Lib.hid (HT.out.same (Fr.of_below hb5))
              have HF5 : Hid (From g (.slice A5 z c5)) := fun j hj => by have := hf5 j hj; have := HT.out.rb.lt; omega
              have HO5 := Lib.hid ho5
              have HW5 : Hid (Below g W0 w5) := HW4.out.trans (hb5.mono (by have := HT.out.rb.lt; omega))
              obtain ⟨q3, f3⟩ := HT5.out.cell3 rfl (by omega) HFL.out
              clear ho5 hf5 hb5
              refine hK.out _ _ (by exact HT5.out.rb.c1) (fun hHeld => ?_)
              clear hK K
              (try simp only [Act.put, List.setIfInBounds_toArray, List.set_cons_zero, List.set_cons_succ])
              refine wpAnyH_take (i := 11) (v := ?va12) (idx_of_drop rfl) (by kernel_rfl) (by kernel_rfl) (by kernel_rfl) (fun _ _ _ h => hang27 48 (by decide) (by decide) h) (Or.inl ⟨by rfl, ?ya12⟩) (by assumption) ?ra12
              case ya12 => (intro w hSw; go_simp <;> with_reducible rfl)
              (try simp only [Act.put, List.setIfInBounds_toArray, List.set_cons_zero, List.set_cons_succ])
              refine wpAnyH_take (i := 12) (v := ?va13) (idx_of_drop rfl) (by kernel_rfl) (by kernel_rfl) (by kernel_rfl) (fun _ _ _ h => hang27 49 (by decide) (by decide) h) (Or.inl ⟨by rfl, ?ya13⟩) (by assumption) ?ra13
              case ya13 => (intro w hSw; go_simp <;> with_reducible rfl)
              (try simp only [Act.put, List.setIfInBounds_toArray, List.set_cons_zero, List.set_cons_succ])
              refine wpAnyH_ready (rs := [13]) (by kernel_rfl) (by simp) ?_
              refine AllReadyH.cons (idx_of_drop rfl) (fun K hK => ?sa14) ?ma14
              case sa14 =>
                go_simp
                refine hK.out _ _ (by exact (HT5.out.put rfl (by omega) HFL.out HO5.out HF5.out).rb.c1) (fun hHeld => ?_)
                clear hK K
                (try simp only [Act.put, List.setIfInBounds_toArray, List.set_cons_zero, List.set_cons_succ])
                refine wpAnyH_done (by kernel_rfl) ?_ _
                have hP := HT5.out.put rfl (by omega) HFL.out HO5.out HF5.out
                have HP := Lib.hid hP
                have HW6 : Hid (Below g W0 (w5.setCell ⟨gl, j * 4 + 3, none⟩ (.slice A5 z c5))) := HW5.out.setCell (p := ⟨gl, j * 4 + 3, none⟩) (HT5.out.fl gl rfl) _
                rename_i hH; clear hH hP q3 f3
                go_wp2_with fail
                go_roundw
                case rel =>
                  refine ⟨j + 1, by go_num, (by omega : j + 1 ≤ k), ⟨_, _, _, x3.drop z, _, HP.out, fun x hx => HBT3.out x (List.mem_of_mem_drop hx), Nat.le_trans (by simp) HLE4.out, ?_⟩, HW6.out⟩
                  have hjf : j < fs.length := by have := HFL.out; omega
                  have ez : zs.drop j = z :: zs.drop (j + 1) := by
                    have := drop_cons (l := zs) (k := j) (by have := HZL.out; omega)
                    have h2 := HZ.out
                    rw [this, show zs.getD j default = z from h2]
                  rw [HBP.out, ez, drop_cons hjf, bodiesP_step (b := x3.take z) (r := x3.drop z) (by rw [cutP, if_pos hzl]), List.map_append]
                  rfl
                case measure => simp [intOf]; omega
              exact AllReadyH.nil
            exact AllReadyH.nil
          exact AllReadyH.nil
        · have hjk : j = k := by have := HJ.out; omega
          subst hjk
          have hdf : fs.drop j = [] := List.drop_of_length_le (by have := HFL.out; omega)
          have hol := HB3.out.ol
          rw [hdf] at hol
          have hbp : bodiesP fs zs x2 = some (vs.map FV.f, x3) := by
            rw [HBP.out, hdf]
            simp [bodiesP, addB]
          have hin : ∀ f ∈ vs.map FV.f, FileIn 1000000 f := by
            have h1 := filesP_in (N := 1000000) (by decide) j r1 fs zs x2 HBT1.out.1 (Nat.le_trans HLE1.out HN0.out) HFS.out
            exact bodiesP_in fs zs x2 _ x3 h1.2.1 h1.2.2 h1.1 hbp
          have hvl : vs.length = j := HB3.out.len
          have hrd : FRd wr Al j (vs.map FV.f) := by
            obtain ⟨A', c', e, hv⟩ := own_vrd (vs := vs) (by simpa using hol) (by omega)
            injection e with e1 e2 e3
            rw [e1]
            exact hv.files (bodO_bod HB3.out.bod)
          have hdec : decP xs = if x3 = [] ∧ adjB (vs.map FV.f) = true ∧ checkI (vs.map FV.f) = 0 then some (vs.map FV.f) else none := by
            unfold decP
            simp only [HN1.out, if_pos hC, HFS.out, hbp]
          have HOL := Lib.hid hol; have HIN := Lib.hid hin; have HRD := Lib.hid hrd; have HDEC := Lib.hid hdec; have HVL := Lib.hid hvl
          have q1 := HB3.out.rb.c1
          clear hdf hol hbp hin hrd hdec hvl
          go_wp2_with fail
          refine (sorted_any (vs.map FV.f) Al j kl wr HRD.out).mono ?_
          rintro e w4 ⟨rfl, hb4⟩
          have HB4 := Lib.hid (HB3.out.same (Fr.of_below hb4))
          have HRD4 := Lib.hid (HRD.out.same hb4)
          have HW4 : Hid (Below g W0 w4) := HBJ.out.trans (hb4.mono (Nat.le_of_lt HB3.out.rb.lt))
          clear hb4 q1
          have q0 := HB4.out.rb.c0
          have q1 := HB4.out.rb.c1
          rcases hadj : adjB (vs.map FV.f) with _ | _
          · have hno : Hid (decP xs = none) := (by rw [HDEC.out, if_neg (by rw [hadj]; simp)] : decP xs = none)
            clear hadj
            by_cases h30 : n3 = 0
            · subst h30
              go_wp2_with fail
              refine (must_no _ _ (by rfl)).mono ?_
              rintro e w5 ⟨rfl, rfl⟩
              refine HPAN.out _ _ HW4.out ?_ ?_ hno.out
              · rfl
              · rfl
            · have h3z : ((n3 : Int) == 0) = false := by rw [beq_eq_false_iff_ne]; omega
              clear h30
              go_wp2_with fail
              refine (must_no _ _ (by rfl)).mono ?_
              rintro e w5 ⟨rfl, rfl⟩
              refine HPAN.out _ _ HW4.out ?_ ?_ hno.out
              · rfl
              · rfl
          have HADJ := Lib.hid hadj; clear hadj
          by_cases h30 : n3 = 0
          case neg =>
            have hno : Hid (decP xs = none) := (by rw [HDEC.out, if_neg (by rintro ⟨rfl, _⟩; exact h30 HB3.out.src.size.symm)] : decP xs = none)
            have h3z : ((n3 : Int) == 0) = false := by rw [beq_eq_false_iff_ne]; omega
            clear h30
            go_wp2_with fail
            refine (must_no _ _ (by rfl)).mono ?_
            rintro e w5 ⟨rfl, rfl⟩
            refine HPAN.out _ _ HW4.out ?_ ?_ hno.out
            · rfl
            · rfl
          have hx3 : x3 = [] := List.eq_nil_of_length_eq_zero (by rw [HB3.out.src.size, h30])
          have HX3 := Lib.hid hx3
          subst h30
          clear hx3
          go_wp2_with fail
          have hm4 : w4.cell? ⟨0, 0, none⟩ = some (.int .i64 m) := by
            have h1 := World.block_lt_of_cell? w _ HM.out
            have h2 := HS.out.trans (HW4.out.mono (by have := HGG.out; omega))
            have h3 : 0 < h0 := by have := HH0.out; simp at h1; omega
            exact (h2.cell (p := ⟨0, 0, none⟩) h3).trans HM.out
          refine (check_any (vs.map FV.f) Al j kl m w4 hm4 HRD4.out (by omega) (fun f hf => (HIN.out f hf).body) (fun f hf => by have := (HIN.out f hf).name; omega)).mono ?_
          rintro e w5 ⟨rfl, hb5⟩
          have HB5 := Lib.hid (HB4.out.same (Fr.of_below hb5))
          have HW5 : Hid (Below g W0 w5) := HW4.out.trans (hb5.mono (Nat.le_of_lt HB4.out.rb.lt))
          clear hb5 hm4 q0 q1
          by_cases hck : checkI (vs.map FV.f) = 0
          case neg =>
            have hno : Hid (decP xs = none) := (by rw [HDEC.out, if_neg (by rintro ⟨_, _, h⟩; exact hck h)] : decP xs = none)
            have hcz : (checkI (vs.map FV.f) == 0) = false := by rw [beq_eq_false_iff_ne]; exact hck
            obtain ⟨ck, hcke⟩ : ∃ ck, checkI (vs.map FV.f) = ck := ⟨_, rfl⟩
            rw [hcke] at hcz
            rw [hcke]
            clear hck hcke
            go_wp2_with fail
            refine (must_no _ _ (by rfl)).mono ?_
            rintro e w6 ⟨rfl, rfl⟩
            refine HPAN.out _ _ HW5.out ?_ ?_ hno.out
            · rfl
            · rfl
          have HCK := Lib.hid hck
          rw [hck]
          clear hck
          have q1 := HB5.out.rb.c1
          have b1 := (HW5.out.block h0 (by have := HGG.out; omega)).trans HB1.out
          have b2 := (HW5.out.block (h0 + 1) (by have := HGG.out; omega)).trans HB2.out
          have p1 : w5.cell? ⟨h0, 0, none⟩ = some (.slice none 0 0) := by rw [blk_cell b1]; rfl
          have f1 := blk_frozen b1 0
          have p2 : w5.cell? ⟨h0 + 1, 0, none⟩ = some (.int .i64 0) := by rw [blk_cell b2]; rfl
          have f2 := blk_frozen b2 0
          have HQ1 := Lib.hid b1; have HQ2 := Lib.hid b2
          clear b1 b2
          go_wp2_with fail
          refine (must_yes _ _ (by rfl)).mono ?_
          rintro e w6 ⟨rfl, rfl⟩
          go_wp2_with fail
          have d1 := blk_far (blk_set HQ1.out 0 (.slice Al j kl)) (p := ⟨h0 + 1, 0, none⟩) (by simp) (.int .i64 0)
          have d2 := blk_set (blk_far HQ2.out (p := ⟨h0, 0, none⟩) (by simp) (.slice Al j kl)) 0 (.int .i64 0)
          refine dec_leaves_ok rfl rfl d1 d2 ?_
          have hdec : decP xs = some (vs.map FV.f) := by rw [HDEC.out, if_pos ⟨HX3.out, HADJ.out, HCK.out⟩]
          have hfar : ∀ q, (Value.slice Al j kl).ownBlock = some q → q ≠ h0 ∧ q ≠ h0 + 1 := fun q hq => by
            have := HB5.out.fl q hq
            have := HGG.out
            omega
          refine ⟨?_, ?_⟩
          · unfold DecPost
            rw [hdec]
            have ho := HB5.out.ol
            rw [List.drop_of_length_le (by have := HFL.out; omega : fs.length ≤ j)] at ho
            have ho2 : w6.ownsRow 0 33 4 (.slice Al j kl) j (flat vs) := by simpa using ho
            refine ⟨.slice Al j kl, vs, rfl, rfl, ?_, ?_, ?_⟩
            · rw [List.length_map, HVL.out]
              exact ownsRow_setCell_other (ownsRow_setCell_other ho2 (a := ⟨h0, 0, none⟩) (fun e => (hfar _ e).1 rfl) _) (a := ⟨h0 + 1, 0, none⟩) (fun e => (hfar _ e).2 rfl) _
            · rw [HH0.out]
              exact fun q hq => by have := HB5.out.fl q hq; have := HGG.out; omega
            · rw [HH0.out]
              exact ((HB5.out.bod.set (a := ⟨h0, 0, none⟩) _ (by have := HGG.out; show h0 < g; omega)).set (a := ⟨h0 + 1, 0, none⟩) _ (by have := HGG.out; show h0 + 1 < g; omega)).mono (by have := HGG.out; omega)
          · rw [HH0.out]
            have hbw : Below h0 w w6 := HS.out.trans (HW5.out.mono (by have := HGG.out; omega))
            exact (hbw.setCell (p := ⟨h0, 0, none⟩) (Nat.le_refl _) _).setCell (p := ⟨h0 + 1, 0, none⟩) (Nat.le_succ _) _
end Go.Proofs.YtlgonkopojancaaDoor
