/- The contracts as the laws' walks use them: the world grows from w0 on. -/
import Derived.Test.YtlgonkopojancaaDoorFxOpenF
import Derived.Test.YtlgonkopojancaaDoorFxFew
import Derived.Test.YtlgonkopojancaaDoorFxLawQ
import Derived.Test.YtlgonkopojancaaDoorFxStabW
import Derived.Test.YtlgonkopojancaaDoorFxAwk
namespace Go.Proofs.YtlgonkopojancaaDoor
open Go.RowKit

structure St (w0 : World) (m : Int) (w : World) : Prop where
  bel : Below w0.heap.size w0 w
  mx : w.cell? ⟨0, 0, none⟩ = some (.int .i64 m)
theorem St.refl {w : World} {m : Int} (h : w.cell? ⟨0, 0, none⟩ = some (.int .i64 m)) : St w m w := ⟨Below.refl _ _, h⟩
theorem St.step {w0 w w' : World} {m : Int} (h : St w0 m w) (b : Below w.heap.size w w') : St w0 m w' :=
  ⟨h.bel.trans (b.mono h.bel.size), (b.cell (p := ⟨0, 0, none⟩) (World.block_lt_of_cell? w _ h.mx)).trans h.mx⟩
theorem below_same {w w' : World} (h : Same w w') : Below w.heap.size w w' := below_fr h
theorem FRd.below {w w' : World} {A : Option Addr} {n : Nat} {fs : List Fi} (h : FRd w A n fs) (b : Below w.heap.size w w') : FRd w' A n fs := h.same b
theorem awake_told {w0 w : World} {m : Int} (st : St w0 m w) : Calls Tryd.prog 11 #[] w fun e w' => e = .returned (.bool true) ∧ St w0 m w' ∧ Below w.heap.size w w' :=
  (awake_any m w st.mx).mono fun _ _ ⟨h, b⟩ => ⟨h, st.step b, b⟩
theorem few_told {w0 w : World} {m : Int} {fs : List Fi} {A : Option Addr} {n c : Nat} (st : St w0 m w) (hf : FRd w A n fs) (hok : ∀ f ∈ fs, FOk f) {B : Bool} (hB : fewB fs = B) :
    Calls Tryd.prog 12 #[.slice A n c] w fun e w' => e = .returned (.bool B) ∧ St w0 m w' ∧ Below w.heap.size w w' :=
  (few_any fs A n c w hf (fun f h => (hok f h).name)).mono fun _ _ ⟨h, b⟩ => ⟨hB ▸ h, st.step (below_same b), below_same b⟩
theorem few_ok {fs : List Fi} (h : fewB fs = true) : FewOk fs := by
  unfold fewB at h
  rw [Bool.and_eq_true, List.all_eq_true] at h
  exact ⟨of_decide_eq_true h.1, fun f hf => by
    have := h.2 f hf
    rw [Bool.and_eq_true] at this
    exact ⟨of_decide_eq_true this.1, of_decide_eq_true this.2⟩⟩
/-- bytes at hand -/
def Rd (w : World) (A : Option Addr) (n c : Nat) (xs : List Int) : Prop := Reads w .u8 A n xs ∧ n ≤ c ∧ c ≤ 9223372036854775807
theorem Rd.below {w w' : World} {A : Option Addr} {n c : Nat} {xs : List Int} (h : Rd w A n c xs) (b : Below w.heap.size w w') : Rd w' A n c xs := ⟨h.1.same b, h.2⟩
theorem enc_err {w0 w : World} {m : Int} {fs : List Fi} {A : Option Addr} {n c : Nat} {ck : Int} (st : St w0 m w) (hf : FRd w A n fs) (hw : FewOk fs) (hok : ∀ f ∈ fs, FOk f) (hc : checkI fs = ck) (h0 : ck ≠ 0) :
    Calls Tryd.prog 13 #[.slice A n c] w fun e w' => e = .returned (.tuple #[.slice none 0 0, .int .i64 ck]) ∧ St w0 m w' ∧ Below w.heap.size w w' :=
  (encode_any fs A n c m w st.mx hf (by have := hf.1; have := hw.1; omega) (fun h => stable_calls n (by omega)) hok hw.body hw.name).mono fun _ _ ⟨h, b⟩ => by
    subst hc
    exact ⟨h.1 h0, st.step b, b⟩
theorem enc_told {w0 w : World} {m : Int} {fs : List Fi} {A : Option Addr} {n c : Nat} (st : St w0 m w) (hf : FRd w A n fs) (hn : n ≤ 200) (hb : ∀ f ∈ fs, f.body.length ≤ 1000000) (hs : ∀ f ∈ fs, f.name.size ≤ 1000000) (hok : ∀ f ∈ fs, FOk f) (hc : checkI fs = 0) :
    Calls Tryd.prog 13 #[.slice A n c] w fun e w' => ∃ gs A' c', e = .returned (.tuple #[.slice A' (encB gs).length c', .int .i64 0]) ∧ StableOf Fi.name fs gs ∧ Rd w' A' (encB gs).length c' (encB gs) ∧ St w0 m w' ∧ Below w.heap.size w w' :=
  (encode_any fs A n c m w st.mx hf (by omega) (fun h => stable_calls n (by omega)) hok hb hs).mono fun _ _ ⟨h, b⟩ => by
    obtain ⟨v, gs, rfl, h1, h2, _⟩ := h.2 hc
    obtain ⟨A', c', rfl, hr⟩ := own_reads h2
    exact ⟨gs, A', c', rfl, h1, ⟨hr, own_cap h2⟩, st.step b, b⟩
theorem dec_err {w0 w : World} {m : Int} {xs : List Int} {A : Option Addr} {n c : Nat} (st : St w0 m w) (hr : Rd w A n c xs) (hb : Bts xs) (hn : n ≤ 1000000) (hd : decP xs = none) :
    Calls Tryd.prog 27 #[.slice A n c] w fun e w' => e = .returned (.tuple #[.slice none 0 0, .int .i64 162]) ∧ St w0 m w' ∧ Below w.heap.size w w' :=
  (dec_any A n c xs m w st.mx hr.1 hr.2.1 hr.2.2 hb hn).mono fun _ _ ⟨h, b⟩ => by
    unfold DecPost at h
    rw [hd] at h
    exact ⟨h, st.step b, b⟩
theorem dec_told {w0 w : World} {m : Int} {xs : List Int} {gs : List Fi} {A : Option Addr} {n c : Nat} (st : St w0 m w) (hr : Rd w A n c xs) (hb : Bts xs) (hn : n ≤ 1000000) (hd : decP xs = some gs) (hl : gs.length ≤ 200) :
    Calls Tryd.prog 27 #[.slice A n c] w fun e w' => ∃ A' c', e = .returned (.tuple #[.slice A' gs.length c', .int .i64 0]) ∧ FRd w' A' gs.length gs ∧ St w0 m w' ∧ Below w.heap.size w w' :=
  (dec_any A n c xs m w st.mx hr.1 hr.2.1 hr.2.2 hb hn).mono fun _ _ ⟨h, b⟩ => by
    unfold DecPost at h
    rw [hd] at h
    obtain ⟨v, vs, rfl, hvs, ho, _, hbo⟩ := h
    obtain ⟨A', c', rfl, hf⟩ := decoded_rd (by omega) hvs ho hbo
    exact ⟨A', c', rfl, hf, st.step b, b⟩
theorem sort_told {w0 w : World} {m : Int} {fs : List Fi} {A : Option Addr} {n c : Nat} (st : St w0 m w) (hf : FRd w A n fs) (hn : n ≤ 200) (hb : ∀ f ∈ fs, f.body.length ≤ 1000000) :
    Calls Tryd.prog 16 #[.slice A n c] w fun e w' => ∃ gs A' c', e = .returned (.slice A' n c') ∧ StableOf Fi.name fs gs ∧ FRd w' A' n gs ∧ St w0 m w' ∧ Below w.heap.size w w' :=
  (sort_walk fs A n c w hf (by omega) hb (stable_calls n (by omega))).mono fun _ _ ⟨v, vs, h, ho, _, b, hbo, hs⟩ => by
    subst h
    obtain ⟨A', c', rfl, hv⟩ := own_vrd ho (by omega)
    exact ⟨vs.map FV.f, A', c', rfl, hs, hv.files hbo, st.step b, b⟩
theorem same_told {w0 w : World} {m : Int} {fs gs : List Fi} {A A' : Option Addr} {n c n' c' : Nat} {B : Bool} (st : St w0 m w) (hf : FRd w A n fs) (hg : FRd w A' n' gs) (h1 : ∀ f ∈ fs, Bts f.body) (h2 : ∀ f ∈ gs, Bts f.body) (hB : decide (fs = gs) = B) :
    Calls Tryd.prog 15 #[.slice A n c, .slice A' n' c'] w fun e w' => e = .returned (.bool B) ∧ St w0 m w' ∧ Below w.heap.size w w' :=
  (same_any fs gs A n c A' n' c' w hf hg h1 h2).mono fun _ _ ⟨h, b⟩ => ⟨hB ▸ h, st.step b, b⟩
theorem check_told {w0 w : World} {m : Int} {fs : List Fi} {A : Option Addr} {n c : Nat} {ck : Int} (st : St w0 m w) (hf : FRd w A n fs) (hn : n ≤ 1000000) (hb : ∀ f ∈ fs, f.body.length ≤ 1000000) (hok : ∀ f ∈ fs, FOk f) (hc : checkI fs = ck) :
    Calls Tryd.prog 23 #[.slice A n c] w fun e w' => e = .returned (.int .i64 ck) ∧ St w0 m w' ∧ Below w.heap.size w w' :=
  (check_any fs A n c m w st.mx hf hn hb (fun f h => (hok f h).name)).mono fun _ _ ⟨h, b⟩ => ⟨hc ▸ h, st.step b, b⟩
theorem stable_ok {P : Fi → Prop} {fs gs : List Fi} (h : StableOf Fi.name fs gs) (hp : ∀ f ∈ fs, P f) : ∀ f ∈ gs, P f := fun f hf => hp f ((stable_names h f).1 hf)
end Go.Proofs.YtlgonkopojancaaDoor
