/- How the arguments of a law lie in memory: a slice of bytes, a slice of tokens. -/
import Derived.Test.YtclamfdmgflofaaMxAwake
import Derived.ProofKit
import Derived.OpenShut
import Derived.ShutString
import Derived.ChangeOld
import Derived.Deep.Strs
namespace Go.Proofs.Ytclamfdmgflofaa
open Go.ChangeShapes Go.WideShapes Go.ChangeAt Go.RowKit Go.Deep
open Mx

theorem own : ownKnob Try.prog.godebug = none := by kernel_rfl
theorem Try.cells33 : Try.prog.cellsOf 33 = 3 := by kernel_rfl
theorem Try.cells5 : Try.prog.cellsOf 5 = 1 := by kernel_rfl
theorem Try.cells3 : Try.prog.cellsOf 3 = 1 := by kernel_rfl

theorem add_none (b o j : Nat) : (⟨b, o, none⟩ : Addr).add j = ⟨b, o + j, none⟩ := by unfold Addr.add; split <;> simp_all

/-- bytes that came in -/
structure BytesIn (w : World) (A : Option Addr) (c : Nat) (zs : List Int) : Prop where
  reads : Reads w .u8 A zs.length zs
  cap : zs.length ≤ c
  wf : ∀ x ∈ zs, (Lit.int .u8 x).wf = true
/-- tokens that came in -/
structure ToksIn (w : World) (A : Option Addr) (n c : Nat) (ts : List Tok) : Prop where
  reads : ReadsT w A n ts
  cap : n ≤ c
  small : c ≤ 9223372036854775807

theorem open_bytes {H : Type} {enc : TypeId × Value → H} {W : World} {base : Nat} {spare : Nat → Bool} {held : Bool} {fuel : Nat} {a0 : Option Addr} {len cap : Nat} {x : DataW H × List MemPlace}
    (h : DataW.trod enc Try.prog W base spare held fuel 23 (Value.slice a0 len cap).cells.toList = some x) : ∃ zs : List Int, len = zs.length ∧ BytesIn W a0 cap zs := by
  rcases open_ints Try.underlying23 Try.underlying5 (by kernel_rfl) h with ⟨h0, _⟩ | ⟨a, l, c, zs, hcs, _, hl, hm, hz, _, hcell, hwz⟩
  · simp [Value.cells] at h0
    obtain ⟨rfl, rfl, rfl⟩ := h0
    exact ⟨[], rfl, ⟨rfl, by simp, fun h => absurd h (by simp)⟩, by simp, fun x hx => by simp at hx⟩
  · simp [Value.cells] at hcs
    obtain ⟨rfl, rfl, rfl⟩ := hcs
    have hzl : len ≤ zs.length := by rw [hz]; split <;> omega
    have hlen : (zs.take len).length = len := by rw [List.length_take]; omega
    refine ⟨zs.take len, hlen.symm, ⟨rfl, by rw [hlen]; unfold maxLen at hm; omega, fun hn => ?_⟩, by rw [hlen]; omega, fun x hx => hwz x (List.mem_of_mem_take hx)⟩
    rw [hlen] at hn
    obtain ⟨b, o, spot⟩ := a
    have hc := hcell 0 (by omega)
    have hspot : spot = none := by simpa [Addr.add] using World.cell?_spot hc
    subst hspot
    refine ⟨b, o, rfl, fun j hj => ?_⟩
    rw [hlen] at hj
    have := hcell j (by omega)
    rw [add_none] at this
    rw [this]
    simp [List.getD, hj]

theorem open_toks {H : Type} {enc : TypeId × Value → H} {W : World} {base : Nat} {spare : Nat → Bool} {held : Bool} {fuel : Nat} {a0 : Option Addr} {len cap : Nat} {x : DataW H × List MemPlace}
    (h : DataW.trod enc Try.prog W base spare held fuel 25 (Value.slice a0 len cap).cells.toList = some x) : ∃ ts : List Tok, ToksIn W a0 len cap ts := by
  rcases open_slice Try.underlying25 h with ⟨h0, _⟩ | ⟨a, len', cap', m, n, D, Pl, hcs, hb, hl, hm, hmm, _, hx⟩
  · simp [Value.cells] at h0
    obtain ⟨rfl, rfl, rfl⟩ := h0
    exact ⟨[], ⟨rfl, fun h => absurd h (by omega)⟩, by omega, by omega⟩
  · simp [Value.cells] at hcs
    obtain ⟨rfl, rfl, rfl⟩ := hcs
    have hlm : len ≤ m := by rw [hmm]; split <;> omega
    have each : ∀ i, i < m → ∃ q : Tok, W.cell? (a.add (i * 3)) = some (.int .u8 q.1) ∧ W.cell? (a.add (i * 3 + 1)) = some (.int .i64 q.2.1) ∧ W.cell? (a.add (i * 3 + 2)) = some (.int .i64 q.2.2) := by
      intro i hi
      obtain ⟨cs', h1, h2⟩ := hx i hi
      rw [Try.cells33] at h1
      obtain ⟨_, hlen, hcell⟩ := World.cells?_some h1
      obtain ⟨y0, y1, y2, k, hxy, _, u0, u1, u2⟩ := trod_struct3 Try.underlying33 h2
      match cs', hlen with
      | [v0, v1, v2], _ =>
        simp only [Try.cells5, Try.cells3, List.drop, List.take] at u0 u1 u2
        obtain ⟨s, e0, d0, ws⟩ := DataW.trod_int Try.underlying5 u0
        obtain ⟨q, e1, d1, wq⟩ := DataW.trod_int Try.underlying3 u1
        obtain ⟨p, e2, d2, wp⟩ := DataW.trod_int Try.underlying3 u2
        simp only [List.cons.injEq, and_true] at e0 e1 e2
        subst e0; subst e1; subst e2
        have c0 := hcell 0 (by omega)
        have c1 := hcell 1 (by omega)
        have c2 := hcell 2 (by omega)
        rw [add_add] at c0 c1 c2
        exact ⟨(s, q, p), by simpa using c0, by simpa using c1, by simpa using c2⟩
    obtain ⟨q, hq⟩ := choose_lt each
    refine ⟨(List.range len).map q, ⟨by simp, fun hn => ?_⟩, hl, by unfold maxLen at hm; omega⟩
    obtain ⟨b, o, spot⟩ := a
    have hc := (hq 0 (by omega)).1
    have hspot : spot = none := by simpa [Addr.add] using World.cell?_spot hc
    subst hspot
    refine ⟨b, o, rfl, fun i hi => ?_⟩
    have := hq i (by omega)
    rw [add_none, add_none, add_none] at this
    have e : ((List.range len).map q).getD i (0, 0, 0) = q i := by
      rw [List.getD_eq_getElem?_getD, List.getElem?_map, List.getElem?_range hi]; rfl
    rw [e]
    exact this

set_option maxHeartbeats 400000 in
theorem matchNames_walk (w : World) : Calls Try.prog 3 #[] w fun e w' => e = .returned (.bool true) ∧ Below w.heap.size w w' := by
  go_enter Try.func3, Try.ntmps3
  go_wp2_with (go_at_call 10; refine (awake_any w).mono ?_; rintro e w1 ⟨rfl, hb⟩; have HB := Lib.hid hb; clear hb)
  go_ret
  exact ⟨rfl, HB.out⟩

set_option maxHeartbeats 2000000 in
theorem matchFinds_walk (w : World) (a0 : Option Addr) (cap0 : Nat) (zs : List Int) (h : BytesIn w a0 cap0 zs) : Calls Try.prog 4 #[.slice a0 zs.length cap0] w fun e w' => e = .returned (.bool true) ∧ Below w.heap.size w w' := by
  have HI := Lib.hid h; clear h
  by_cases h4 : (400 : Int) < zs.length
  · go_enter Try.func4, Try.ntmps4
    go_wp2_with (go_at_call 10; refine (awake_any w).mono ?_; rintro e w1 ⟨rfl, hb⟩; have HB := Lib.hid hb; clear hb)
    go_ret
    exact ⟨rfl, HB.out⟩
  · have hl : zs.length ≤ 400 := by omega
    obtain ⟨n, hn⟩ : ∃ n, zs.length = n := ⟨_, rfl⟩
    have HR := HI.out.reads
    have HC := HI.out.cap
    rw [hn] at HR HC hl h4
    rw [hn]
    have HF := Lib.hid (fun w' (b : Below w.heap.size w w') => find_any a0 cap0 zs n w' hn (HR.same b) HI.out.wf (by omega) HC)
    have HG := Lib.hid (fun w' (b : Below w.heap.size w w') => rfind_any a0 cap0 zs n w' hn (HR.same b) (by omega))
    have hfl : (find zs).length ≤ 400 := Nat.le_trans (find_len zs) (by omega)
    have HFL := Lib.hid hfl
    clear HR HC hl hn hfl
    go_enter Try.func4, Try.ntmps4
    go_wp2_with (go_at_call 10; refine (awake_any w).mono ?_; rintro e w1 ⟨rfl, hb⟩; have HB := Lib.hid hb; clear hb)
    refine (HF.out w1 HB.out).mono ?_
    rintro e w2 ⟨v, rfl, h1, h2⟩
    obtain ⟨A2, c2, rfl, hc, hT⟩ := own_readsT h1 rfl
    have HB2 := Lib.hid (HB.out.trans (h2.mono HB.out.size)); have HT := Lib.hid hT
    clear h1 h2 hc hT
    go_wp2_with fail
    refine (HG.out w2 HB2.out).mono ?_
    rintro e w3 ⟨v, rfl, h1, h2⟩
    obtain ⟨A3, c3, rfl, hc, hT⟩ := own_readsT h1 rfl
    have HB3 := Lib.hid (HB2.out.trans (h2.mono HB2.out.size)); have HT3 := Lib.hid (HT.out.same h2); have HU := Lib.hid hT
    clear h1 h2 hc hT
    go_wp2_with fail
    refine (same_any A2 c2 (find zs) _ A3 c3 (find zs) w3 HT3.out HU.out (by have := HFL.out; omega)).mono ?_
    rintro e w4 ⟨he, h4⟩
    rw [decide_eq_true rfl] at he
    subst he
    have HB4 := Lib.hid (HB3.out.trans ((below_fr h4).mono HB3.out.size))
    clear h4
    go_wp2
    go_ret
    exact ⟨rfl, HB4.out⟩
end Go.Proofs.Ytclamfdmgflofaa
