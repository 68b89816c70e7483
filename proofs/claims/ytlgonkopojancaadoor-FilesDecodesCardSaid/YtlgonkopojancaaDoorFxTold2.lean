/- The reference's contracts as the laws' walks use them. -/
import Derived.Test.YtlgonkopojancaaDoorFxTold
import Derived.Test.YtlgonkopojancaaDoorFxREnc
import Derived.Test.YtlgonkopojancaaDoorFxRList
import Derived.Test.YtlgonkopojancaaDoorFxRFind
namespace Go.Proofs.YtlgonkopojancaaDoor
open Go.RowKit

theorem renc_err {w0 w : World} {m : Int} {fs : List Fi} {A : Option Addr} {n c : Nat} {ck : Int} (st : St w0 m w) (hf : FRd w A n fs) (hn : n ≤ 1000000) (hb : ∀ f ∈ fs, f.body.length ≤ 1000000) (hs : ∀ f ∈ fs, f.name.size ≤ 1000000) (hok : ∀ f ∈ fs, FOk f) (hc : checkI fs = ck) (h0 : ck ≠ 0) :
    Calls Tryd.prog 14 #[.slice A n c] w fun e w' => e = .returned (.tuple #[.slice none 0 0, .int .i64 ck]) ∧ St w0 m w' ∧ Below w.heap.size w w' :=
  (rencode_any fs A n c w hf hn hok hb hs).mono fun _ _ ⟨h, b⟩ => by
    subst hc
    exact ⟨h.1 h0, st.step b, b⟩
theorem renc_told {w0 w : World} {m : Int} {fs : List Fi} {A : Option Addr} {n c : Nat} (st : St w0 m w) (hf : FRd w A n fs) (hn : n ≤ 1000000) (hb : ∀ f ∈ fs, f.body.length ≤ 1000000) (hs : ∀ f ∈ fs, f.name.size ≤ 1000000) (hok : ∀ f ∈ fs, FOk f) (hc : checkI fs = 0) :
    Calls Tryd.prog 14 #[.slice A n c] w fun e w' => ∃ gs A' c', e = .returned (.tuple #[.slice A' (encB gs).length c', .int .i64 0]) ∧ StableOf Fi.name fs gs ∧ Rd w' A' (encB gs).length c' (encB gs) ∧ St w0 m w' ∧ Below w.heap.size w w' :=
  (rencode_any fs A n c w hf hn hok hb hs).mono fun _ _ ⟨h, b⟩ => by
    obtain ⟨v, gs, rfl, h1, h2, _⟩ := h.2 hc
    obtain ⟨A', c', rfl, hr⟩ := own_reads h2
    exact ⟨gs, A', c', rfl, h1, ⟨hr, own_cap h2⟩, st.step b, b⟩
theorem rsort_told {w0 w : World} {m : Int} {fs : List Fi} {A : Option Addr} {n c : Nat} (st : St w0 m w) (hf : FRd w A n fs) (hn : n ≤ 1000000) :
    Calls Tryd.prog 17 #[.slice A n c] w fun e w' => ∃ gs A' c', e = .returned (.slice A' n c') ∧ StableOf Fi.name fs gs ∧ FRd w' A' n gs ∧ St w0 m w' ∧ Below w.heap.size w w' :=
  (rsort_any fs A n c w hf hn).mono fun _ _ ⟨gs, A', c', h, hs, hr, b⟩ => ⟨gs, A', c', h, hs, hr, st.step b, b⟩
theorem bare_files {w : World} {A : Option Addr} {n : Nat} {fs : List Fi} (h : VRd w A n (fs.map bareV)) : FRd w A n (fs.map Fi.bare) := by
  have := h.files (fun v hv => by
    obtain ⟨f, _, rfl⟩ := List.mem_map.1 hv
    exact ⟨rfl, Nat.zero_le _, fun h => absurd h (Nat.lt_irrefl 0)⟩)
  rw [List.map_map] at this
  exact this
theorem listF_told {w0 w : World} {m : Int} {fs : List Fi} {A : Option Addr} {n c : Nat} (st : St w0 m w) (hg : FRd w A n fs) (hn : n ≤ 1000000) :
    Calls Tryd.prog 18 #[.slice A n c] w fun e w' => ∃ A' c', e = .returned (.slice A' n c') ∧ FRd w' A' n (fs.map Fi.bare) ∧ St w0 m w' ∧ Below w.heap.size w w' :=
  (list_any fs A n c w hg hn).mono fun _ _ ⟨v, h, ho, _, b⟩ => by
    subst h
    obtain ⟨A', c', rfl, hv⟩ := own_vrd ho (by omega)
    exact ⟨A', c', rfl, bare_files hv, st.step b, b⟩
theorem rlist_told {w0 w : World} {m : Int} {fs : List Fi} {A : Option Addr} {n c : Nat} (st : St w0 m w) (hg : FRd w A n fs) (hn : n ≤ 1000000) :
    Calls Tryd.prog 19 #[.slice A n c] w fun e w' => ∃ A' c', e = .returned (.slice A' n c') ∧ FRd w' A' n (fs.map Fi.bare) ∧ St w0 m w' ∧ Below w.heap.size w w' :=
  (rlist_any fs A n c w hg hn).mono fun _ _ ⟨v, h, ho, _, b⟩ => by
    subst h
    obtain ⟨A', c', rfl, hv⟩ := own_vrd ho (by omega)
    exact ⟨A', c', rfl, bare_files hv, st.step b, b⟩
/-- what either Find answers -/
theorem findB_told {k : Nat} {w0 w : World} {m : Int} {fs : List Fi} {A : Option Addr} {n c : Nat} {nm : ByteArray} (st : St w0 m w) (h : Calls Tryd.prog k #[.slice A n c, .string nm] w fun e w' => FindPost fs nm e w' ∧ Below w.heap.size w w') {f : Fi} {B : Bool} (hf : fs.find? (fun g => decide (g.name = nm)) = (if B then some f else none)) (hd : B = false → f = default) :
    Calls Tryd.prog k #[.slice A n c, .string nm] w fun e w' => ∃ A' n' c', e = .returned (.tuple #[fval f A' n' c', .bool B]) ∧ Reads w' .u8 A' n' f.body ∧ St w0 m w' ∧ Below w.heap.size w w' :=
  h.mono fun _ _ ⟨hp, b⟩ => by
    unfold FindPost at hp
    rw [hf] at hp
    cases B with
    | true =>
      obtain ⟨A', n', c', e, hr⟩ := hp
      exact ⟨A', n', c', e, hr, st.step b, b⟩
    | false =>
      have h := hd rfl
      subst h
      exact ⟨none, 0, 0, hp, ⟨rfl, by decide, fun h => absurd h (by decide)⟩, st.step b, b⟩
theorem rcheck_told {w0 w : World} {m : Int} {fs : List Fi} {A : Option Addr} {n c : Nat} {ck : Int} (st : St w0 m w) (hf : FRd w A n fs) (hn : n ≤ 1000000) (hb : ∀ f ∈ fs, f.body.length ≤ 1000000) (hok : ∀ f ∈ fs, FOk f) (hc : checkI fs = ck) :
    Calls Tryd.prog 24 #[.slice A n c] w fun e w' => e = .returned (.int .i64 ck) ∧ St w0 m w' ∧ Below w.heap.size w w' :=
  (rcheck_any fs A n c w hf hn hb (fun f h => (hok f h).name)).mono fun _ _ ⟨h, b⟩ => ⟨hc ▸ h, st.step (below_same b), below_same b⟩
theorem nameS_told {w0 w : World} {m : Int} {s : ByteArray} {B : Bool} (st : St w0 m w) (hs : s.size ≤ 9223372036854775807) (hB : nameB s = B) : Calls Tryd.prog 25 #[.string s] w fun e w' => e = .returned (.bool B) ∧ St w0 m w' ∧ Below w.heap.size w w' :=
  (name_any s m w st.mx hs).mono fun _ _ ⟨h, b⟩ => ⟨hB ▸ h, st.step b, b⟩
theorem rname_told {w0 w : World} {m : Int} {s : ByteArray} {B : Bool} (st : St w0 m w) (hs : s.size ≤ 9223372036854775807) (hB : nameB s = B) : Calls Tryd.prog 26 #[.string s] w fun e w' => e = .returned (.bool B) ∧ St w0 m w' ∧ Below w.heap.size w w' :=
  (refname_any s w hs).mono fun _ _ ⟨h, b⟩ => by
    subst b
    exact ⟨hB ▸ h, st, Below.refl _ _⟩
theorem one_told {w0 w : World} {m : Int} {f : Fi} {A A' : Option Addr} {n c n' c' : Nat} (st : St w0 m w) (h1 : Reads w .u8 A n f.body) (h2 : Reads w .u8 A' n' f.body) (hb : Bts f.body) :
    Calls Tryd.prog 22 #[fval f A n c, fval f A' n' c'] w fun e w' => e = .returned (.bool true) ∧ St w0 m w' ∧ Below w.heap.size w w' :=
  (one_any f f A n c A' n' c' w h1 h2 hb hb).mono fun _ _ ⟨h, b⟩ => ⟨by rw [h, decide_eq_true rfl], st.step b, b⟩
end Go.Proofs.YtlgonkopojancaaDoor
