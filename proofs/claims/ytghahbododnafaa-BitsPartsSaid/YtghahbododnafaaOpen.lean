/- How the arguments of a law lie in memory: a slice of bytes, a slice of calls. -/
import Derived.Test.YtghahbododnafaaAwake
import Derived.ProofKit
import Derived.OpenShut
import Derived.ShutString
import Derived.ChangeOld
import Derived.Deep.Strs
namespace Go.Proofs.Ytghahbododnafaa
open Go.ChangeShapes Go.WideShapes Go.ChangeAt Go.RowKit Go.Deep

/-- the calls of a script, n of them -/
structure ReadsCalls (w : World) (A : Option Addr) (n : Nat) (cl : Nat → Int × Int × Bool) : Prop where
  small : n ≤ 9223372036854775807
  cells : 0 < n → ∃ b o, A = some ⟨b, o, none⟩ ∧ ∀ i, i < n → w.cell? ⟨b, o + i * 3, none⟩ = some (.int .u64 (cl i).1) ∧ w.cell? ⟨b, o + i * 3 + 1, none⟩ = some (.int .i64 (cl i).2.1) ∧ w.cell? ⟨b, o + i * 3 + 2, none⟩ = some (.bool (cl i).2.2)
  num : ∀ i, i < n → 0 ≤ (cl i).1 ∧ (cl i).1 ≤ 18446744073709551615
  bits : ∀ i, i < n → -9223372036854775808 ≤ (cl i).2.1 ∧ (cl i).2.1 ≤ 9223372036854775807

theorem Try.cells36 : Try.prog.cellsOf 36 = 3 := by kernel_rfl
theorem Try.cells26 : Try.prog.cellsOf 26 = 1 := by kernel_rfl
theorem Try.cells3 : Try.prog.cellsOf 3 = 1 := by kernel_rfl
theorem Try.cells4 : Try.prog.cellsOf 4 = 1 := by kernel_rfl
theorem laidOut : laidOutB Try.prog = true := by kernel_rfl
theorem own : ownKnob Try.prog.godebug = none := by kernel_rfl

theorem add_none (b o j : Nat) : (⟨b, o, none⟩ : Addr).add j = ⟨b, o + j, none⟩ := by unfold Addr.add; split <;> simp_all

theorem open_calls {H : Type} {enc : TypeId × Value → H} {W : World} {base : Nat} {spare : Nat → Bool} {held : Bool} {fuel : Nat} {a0 : Option Addr} {len cap : Nat} {x : DataW H × List MemPlace}
    (h : DataW.trod enc Try.prog W base spare held fuel 23 (Value.slice a0 len cap).cells.toList = some x) : ∃ cl, ReadsCalls W a0 len cl := by
  rcases open_slice Try.underlying23 h with ⟨h0, _⟩ | ⟨a, len', cap', m, n, D, Pl, hcs, hb, hl, hm, hmm, _, hx⟩
  · simp [Value.cells] at h0
    obtain ⟨rfl, rfl, rfl⟩ := h0
    exact ⟨fun _ => (0, 0, false), by omega, fun h => absurd h (by omega), fun i hi => absurd hi (by omega), fun i hi => absurd hi (by omega)⟩
  · simp [Value.cells] at hcs
    obtain ⟨rfl, rfl, rfl⟩ := hcs
    have hlm : len ≤ m := by rw [hmm]; split <;> omega
    have each : ∀ i, i < m → ∃ q : Int × Int × Bool, (W.cell? (a.add (i * 3)) = some (.int .u64 q.1) ∧ W.cell? (a.add (i * 3 + 1)) = some (.int .i64 q.2.1) ∧ W.cell? (a.add (i * 3 + 2)) = some (.bool q.2.2)) ∧ (Lit.int .u64 q.1).wf = true ∧ (Lit.int .i64 q.2.1).wf = true := by
      intro i hi
      obtain ⟨cs', h1, h2⟩ := hx i hi
      rw [Try.cells36] at h1
      obtain ⟨_, hlen, hcell⟩ := World.cells?_some h1
      obtain ⟨y0, y1, y2, k, hxy, _, u0, u1, u2⟩ := trod_struct3 Try.underlying36 h2
      match cs', hlen with
      | [v0, v1, v2], _ =>
        simp only [Try.cells26, Try.cells3, Try.cells4, List.drop, List.take] at u0 u1 u2
        obtain ⟨s, e0, d0, ws⟩ := DataW.trod_int Try.underlying26 u0
        obtain ⟨q, e1, d1, wq⟩ := DataW.trod_int Try.underlying3 u1
        obtain ⟨p, e2, d2⟩ := DataW.trod_bool Try.underlying4 u2
        simp only [List.cons.injEq, and_true] at e0 e1 e2
        subst e0; subst e1; subst e2
        have c0 := hcell 0 (by omega)
        have c1 := hcell 1 (by omega)
        have c2 := hcell 2 (by omega)
        rw [add_add] at c0 c1 c2
        exact ⟨(s, q, p), ⟨by simpa using c0, by simpa using c1, by simpa using c2⟩, ws, wq⟩
    obtain ⟨q, hq⟩ := choose_lt each
    refine ⟨q, by unfold maxLen at hm; omega, fun hn => ?_, fun i hi => ?_, fun i hi => ?_⟩
    · obtain ⟨b, o, spot⟩ := a
      have hc := (hq 0 (by omega)).1.1
      have hspot : spot = none := by simpa [Addr.add] using World.cell?_spot hc
      subst hspot
      refine ⟨b, o, rfl, fun i hi => ?_⟩
      have := (hq i (by omega)).1
      rw [add_none, add_none, add_none] at this
      exact this
    · exact bounds_u64 (hq i (by omega)).2.1
    · exact bounds_i64 (hq i (by omega)).2.2

theorem open_bytes {H : Type} {enc : TypeId × Value → H} {W : World} {base : Nat} {spare : Nat → Bool} {held : Bool} {fuel : Nat} {a0 : Option Addr} {len cap : Nat} {x : DataW H × List MemPlace}
    (h : DataW.trod enc Try.prog W base spare held fuel 25 (Value.slice a0 len cap).cells.toList = some x) : ∃ zs : List Int, len = zs.length ∧ Reads W .u8 a0 zs.length zs ∧ ∀ x ∈ zs, 0 ≤ x ∧ x ≤ 255 := by
  rcases open_ints Try.underlying25 Try.underlying5 (by kernel_rfl) h with ⟨h0, _⟩ | ⟨a, l, c, zs, hcs, _, hl, hm, hz, _, hcell, hwz⟩
  · simp [Value.cells] at h0
    obtain ⟨rfl, rfl, rfl⟩ := h0
    exact ⟨[], rfl, ⟨rfl, by simp, fun h => absurd h (by simp)⟩, fun x hx => by simp at hx⟩
  · simp [Value.cells] at hcs
    obtain ⟨rfl, rfl, rfl⟩ := hcs
    have hzl : len ≤ zs.length := by rw [hz]; split <;> omega
    have hlen : (zs.take len).length = len := by rw [List.length_take]; omega
    refine ⟨zs.take len, hlen.symm, ⟨rfl, by rw [hlen]; unfold maxLen at hm; omega, fun hn => ?_⟩, fun x hx => bounds_u8 (hwz x (List.mem_of_mem_take hx))⟩
    rw [hlen] at hn
    obtain ⟨b, o, spot⟩ := a
    have hc := hcell 0 (by omega)
    have hspot : spot = none := by simpa [Addr.add] using World.cell?_spot hc
    subst hspot
    refine ⟨b, o, rfl, fun j hj => ?_⟩
    rw [hlen] at hj
    have := hcell j (by omega)
    rw [add_none] at this
    rw [this]
    simp [List.getD, hj]
end Go.Proofs.Ytghahbododnafaa
