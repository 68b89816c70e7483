/- The walk of Sort, over a contract of SortStableFunc. -/
import Derived.Test.YtlgonkopojancaaDoorFxStab
namespace Go.Proofs.YtlgonkopojancaaDoor
open Go.RowKit

def FV.key (v : FV) : ByteArray := v.f.name
/-- what SortStableFunc leaves of n files -/
def StableCalls (n : Nat) : Prop := ∀ (W : World) (vs : List FV) (v : Value), W.ownsRow 0 33 4 v n (flat vs) →
  Calls Tryd.prog 34 #[v, .func (.func 35) #[] #[]] W fun e w' => e = .returned (.tuple #[]) ∧ ∃ vs', StableOf FV.key vs vs' ∧ w'.ownsRow 0 33 4 v n (flat vs') ∧ Fr (fun k => some k = v.ownBlock) W w'

/-- bodies that lie elsewhere than in block g -/
def BodX (g : Nat) (w : World) (vs : List FV) : Prop := ∀ v ∈ vs, Reads w .u8 v.A v.n v.f.body ∧ (0 < v.n → v.A.map (·.block) ≠ some g)
theorem BodX.fr {g : Nat} {w w' : World} {vs : List FV} {S : Nat → Prop} (h : BodX g w vs) (f : Fr S w w') (hS : ∀ k, S k → k = g) : BodX g w' vs := fun v hv => by
  obtain ⟨h1, h2⟩ := h v hv
  exact ⟨h1.fr f (fun hn b hb hs => h2 hn (by rw [hb, hS b hs])), h2⟩
theorem flat_set3 : ∀ (vs : List FV) (k : Nat) (v : FV), k < vs.length → v.f = (vs.getD k default).f → flat (vs.set k v) = (flat vs).set (k * 4 + 3) (.slice v.A v.n v.c)
  | u :: vs, 0, v, _, h => by
    rw [List.set_cons_zero, flat_cons, flat_cons]
    have hf : v.f = u.f := h
    unfold FV.cells fcells
    rw [hf]
    rfl
  | u :: vs, k + 1, v, hk, h => by
    rw [List.set_cons_succ, flat_cons, flat_cons, flat_set3 vs k v (by simpa using hk) h, List.set_append_right _ _ (by rw [FV.length_cells]; omega), FV.length_cells]
    congr 2
    omega

theorem bod_reads {w : World} {g n : Nat} {v : Value} {xs : List Int} (ho : w.ownsRow 0 5 1 v n (bts xs)) {cs : Array Value} (hg : w.heap[g]? = some (.cells cs 33 (0, 0))) : ∃ A c, v = .slice A n c ∧ Reads w .u8 A n xs ∧ (0 < n → A.map (·.block) ≠ some g) := by
  obtain ⟨A, c, rfl, hr⟩ := own_reads ho
  refine ⟨A, c, rfl, hr, fun hn e => ?_⟩
  obtain ⟨b, c', e2, _⟩ := own_cells ho hn
  injection e2 with e2
  subst e2
  simp at e
  exact own_ne ho hg (by decide) (by simp [Value.ownBlock, e])

theorem row_block {w : World} {g n c : Nat} {xs : List Value} (h : w.ownsRow 0 33 4 (.slice (some ⟨g, 0, none⟩) n c) n xs) : ∃ cs, w.heap[g]? = some (.cells cs 33 (0, 0)) := by
  rcases h.2 with ⟨h', _⟩ | ⟨g', cap', cur, h', _, hg, _⟩
  · simp at h'
  · simp only [Value.slice.injEq, Option.some.injEq, Addr.mk.injEq, and_true, true_and] at h'
    obtain ⟨rfl, rfl⟩ := h'
    exact ⟨cur, hg⟩

set_option maxRecDepth 20000 in
set_option maxHeartbeats 4000000 in
theorem sort_walk (fs : List Fi) (A : Option Addr) (n c : Nat) (w : World) (hf : FRd w A n fs) (hn : n ≤ 1000000) (hb : ∀ f ∈ fs, f.body.length ≤ 1000000) (hst : StableCalls n) :
    Calls Tryd.prog 16 #[.slice A n c] w fun e w' => ∃ v vs', e = .returned v ∧ w'.ownsRow 0 33 4 v n (flat vs') ∧ From w.heap.size v ∧ Below w.heap.size w w' ∧ Bod w' vs' ∧ StableOf Fi.name fs (vs'.map FV.f) := by
  obtain ⟨vs, rfl, hv, hbod⟩ := hf.choose
  have HV := Lib.hid hv; have HBOD := Lib.hid hbod; have HB := Lib.hid hb; have HST := Lib.hid hst
  clear hf hv hbod hb hst
  go_enter Tryd.func16, Tryd.ntmps16
  go_wp2_with (go_at_call 32; refine (cloneF_any vs A n c w HV.out hn).mono ?_; rintro e w1 ⟨v1, rfl, ho1, hf1, hb1⟩; obtain ⟨A1, c1, rfl⟩ := own_shape ho1; have HO1 := Lib.hid ho1; have HF1 := Lib.hid hf1; have HB1 := Lib.hid hb1; clear ho1 hf1 hb1)
  have hl1 : vs.length = n := HV.out.1
  have HL1 := Lib.hid hl1; clear hl1
  go_loopw [4, 9] (fun _ v9 wr => ∃ (k : Nat) (us : List FV), v9 = .int .i64 k ∧ Hid (k ≤ n) ∧ Hid (us.map FV.f = vs.map FV.f) ∧ Hid (wr.ownsRow 0 33 4 (.slice A1 n c1) n (flat us)) ∧ Hid (∀ g, A1 = some ⟨g, 0, none⟩ → BodX g wr us) ∧ Hid (Below w.heap.size w wr)) (fun _ v9 _ => n - (intOf v9).toNat)
  case atStart =>
    refine ⟨0, vs, rfl, Nat.zero_le _, rfl, HO1.out, ?_, HB1.out⟩
    show ∀ g, A1 = some ⟨g, 0, none⟩ → BodX g w1 vs
    rintro g rfl v hv
    have hr := HBOD.out v hv
    refine ⟨hr.same HB1.out, fun hn e => ?_⟩
    have h1 := hr.lt hn e
    have h2 := HF1.out g (by simp [Value.ownBlock])
    omega
  case round =>
    obtain ⟨k, us, rfl, HK, HU, HO, HX, HBL⟩ := hrel
    by_cases hk : (k : Int) < n
    · obtain ⟨g, c', e, hc⟩ := own_cellsN HO.out (by omega)
      injection e with e1 e2 e3
      subst e1
      subst e3
      clear e2
      have hul : us.length = n := by have := congrArg List.length HU.out; simp at this; have := HL1.out; omega
      have hkl : k < us.length := by omega
      have q3 := hc (k * 4 + 3) _ (flat_at us k hkl 3 _ rfl)
      obtain ⟨u, hu⟩ : ∃ u, us.getD k default = u := ⟨_, rfl⟩
      have hum : u ∈ us := by rw [← hu, List.getD_eq_getElem?_getD, List.getElem?_eq_getElem hkl]; exact List.getElem_mem _
      have hub := (HX.out g rfl u hum).1
      have hul2 : u.f.body.length ≤ 1000000 := HB.out _ (by rw [← HU.out]; exact List.mem_map_of_mem hum)
      rw [hu] at q3
      obtain ⟨f, A', n', c2⟩ := u
      have HUB := Lib.hid hub; have HUL := Lib.hid hul2; have HUE := Lib.hid hu; have HKL := Lib.hid hkl; have HULN := Lib.hid hul
      dsimp only at q3
      have h0k : (0 : Int) ≤ (k : Int) := by omega
      clear hc hum hub hul2 hu hkl hul
      have hf3 := HO.out.frozenAt (k * 4 + 3)
      go_wp2_with fail
      refine (clone_any A' n' c2 f.body wr HUB.out (by have h1 : f.body.length = n' := HUB.out.1; have h2 : f.body.length ≤ 1000000 := HUL.out; omega)).mono ?_
      rintro e w2 ⟨v2, rfl, ho2, hf2, hb2⟩
      have hrow := (Fr.of_below hb2).own HO.out (fun _ _ h => h)
      obtain ⟨cs, hg⟩ := row_block hrow
      obtain ⟨A2, c3, rfl, hr2, hx2⟩ := bod_reads ho2 hg
      have hf3 := hrow.frozenAt (k * 4 + 3)
      have q4 := hrow.cellAt (k * 4 + 3) (by omega)
      rw [flat_at us k HKL.out 3 (.slice A' n' c2) (by rw [HUE.out]; rfl)] at q4
      obtain ⟨hst1, hst2⟩ := hrow.stored (k * 4 + 3) (.slice A2 n' c3)
      have HST1 := Lib.hid hst1; have HST2 := Lib.hid hst2; have HR2 := Lib.hid hr2; have HX2 := Lib.hid hx2; have HB2 := Lib.hid hb2
      have hgw : w.heap.size ≤ g := HF1.out g (by simp [Value.ownBlock])
      have HGW := Lib.hid hgw
      clear ho2 hf2 hb2 hrow hg hr2 hx2 hst1 hst2 hgw
      go_wp2
      go_roundw
      case rel =>
        have hfr := Fr.of_grown HST2.out
        have hbel : Below w.heap.size w (w2.setCell ⟨g, k * 4 + 3, none⟩ (.slice A2 n' c3)) := (HBL.out.trans (HB2.out.mono HBL.out.size)).setCell (p := ⟨g, k * 4 + 3, none⟩) HGW.out _
        refine ⟨k + 1, us.set k ⟨f, A2, n', c3⟩, by go_num, (by omega : k + 1 ≤ n), ?_, ?_, ?_, hbel⟩
        · show (us.set k ⟨f, A2, n', c3⟩).map FV.f = vs.map FV.f
          rw [← HU.out, List.map_set]
          refine List.ext_getElem? fun j => ?_
          by_cases e : k = j
          · subst e
            have := HUE.out
            rw [List.getD_eq_getElem?_getD, List.getElem?_eq_getElem HKL.out, Option.getD_some] at this
            rw [List.getElem?_set_self (by rw [List.length_map]; exact HKL.out), List.getElem?_map, List.getElem?_eq_getElem HKL.out, this]
            rfl
          · rw [List.getElem?_set_ne e]
        · show World.ownsRow _ _ _ _ _ _ _
          rw [flat_set3 us k ⟨f, A2, n', c3⟩ HKL.out (by rw [HUE.out])]
          exact HST1.out
        · show ∀ g', some (⟨g, 0, none⟩ : Addr) = some ⟨g', 0, none⟩ → BodX g' _ _
          intro g' eg
          injection eg with eg
          injection eg with eg
          subst eg
          refine BodX.fr (w := w2) ?_ hfr (fun j hj => by injection hj)
          intro v hv
          rcases List.mem_or_eq_of_mem_set hv with h | rfl
          · obtain ⟨h1, h2⟩ := HX.out g rfl v h
            exact ⟨h1.same HB2.out, h2⟩
          · exact ⟨HR2.out, HX2.out⟩
      case measure => simp [intOf]; omega
    · go_wp2_with fail
      refine (HST.out wr us _ HO.out).mono ?_
      rintro e w2 ⟨rfl, vs', hs1, ho2, hfr⟩
      have HS1 := Lib.hid hs1; have HO2 := Lib.hid ho2; have HFR := Lib.hid hfr
      clear hs1 ho2 hfr
      go_wp2
      go_ret
      have hmem : ∀ v ∈ vs', v ∈ us := fun v hv => by
        have h1 : v ∈ vs'.filter (fun x => decide (FV.key x = FV.key v)) := List.mem_filter.2 ⟨hv, by simp⟩
        rw [HS1.out.2 (FV.key v)] at h1
        exact (List.mem_filter.1 h1).1
      refine ⟨_, vs', rfl, HO2.out, HF1.out, HBL.out.trans (HFR.out.below _ HBL.out.size (fun j hj e => by have := HF1.out j e.symm; omega)), ?_, ?_⟩
      · intro v hv
        rcases Nat.eq_zero_or_pos n with h0 | h0
        · have hz := HO.out.1
          rw [length_flat, h0] at hz
          have : us = [] := List.eq_nil_of_length_eq_zero (by omega)
          have := hmem v hv
          simp_all
        · obtain ⟨g, c', e, _⟩ := own_cellsN HO.out h0
          injection e with e1 e2 e3
          obtain ⟨h1, h2⟩ := HX.out g e1 v (hmem v hv)
          exact h1.fr HFR.out (fun hn b hb he => h2 hn (by rw [hb, he, e1]; rfl))
      · rw [← HU.out]
        exact stable_map (fun _ => rfl) HS1.out
end Go.Proofs.YtlgonkopojancaaDoor
