/- The finder: what it holds when some places are known. -/
import Derived.Test.YtclamfdmgflofaaMxFour
import Derived.Test.YtclamfdmgflofaaMxPrev
import Derived.Test.YtclamfdmgflofaaMxFloat2
namespace Go.Proofs.Ytclamfdmgflofaa
open Go.RowKit
open Mx

theorem zero3 (w : World) : (zeroValue 3).run Try.prog w = .ok (.int .i64 0) w := by kernel_rfl

/-- the map holds the last place ahead of i for each four bytes -/
def MapOk (b : List Int) (i : Nat) (D : DataW Unit) : Prop :=
  ∀ a, Maps.has D (kl b a) = decide (0 ≤ prev b a i) ∧ D.atKey (kl b a) (.lit (.int .i64 0)) = .lit (.int .i64 (if 0 ≤ prev b a i then prev b a i else 0))

structure Fin (w : World) (g : Nat) (A : Option Addr) (c : Nat) (b : List Int) (n BM BK i : Nat) : Prop where
  blk : w.heap[g]? = some (.cells #[.slice A n c, .map (some BM), .slice (some ⟨BK, 0, none⟩) n n] 43 (0, 0))
  len : b.length = n
  reads : Reads w .u8 A n b
  map : ∃ (D : DataW Unit) (k : Nat), k ≤ i ∧ w.ownsMap Try.prog 50 (plainElem Try.prog 3) BM k D ∧ MapOk b i D
  back : ∃ cs : Array Value, w.heap[BK]? = some (.cells cs 3 (0, 0)) ∧ cs.size = n ∧ ∀ j, j < i → j + 4 ≤ n → cs[j]? = some (.int .i64 (prev b j j))
  apart : 0 < n → ∀ k, A.map (·.block) = some k → k ≠ BK ∧ k ≠ BM

theorem mapOk_start (b : List Int) : MapOk b 0 (.map []) := fun a => by
  simp [prev, Maps.has, DataW.atKey]
theorem kl_iff (b : List Int) (i a : Nat) (hb : ∀ x ∈ b, (Lit.int .u8 x).wf = true) : kl b i = kl b a ↔ eq4 b i a := kl_inj b i a hb
/-- a place that is known from now on -/
theorem mapOk_put {b : List Int} {i : Nat} {D : DataW Unit} (hb : ∀ x ∈ b, (Lit.int .u8 x).wf = true) (h : MapOk b i D) (hm : Go.Maps.IsMap D) (hl : i + 4 ≤ b.length) : MapOk b (i + 1) (D.put (kl b i) (.lit (.int .i64 i))) := fun a => by
  rw [prev]
  by_cases he : eq4 b i a
  · rw [if_pos ⟨hl, he⟩, ← (kl_iff b i a hb).2 he]
    refine ⟨?_, ?_⟩
    · rw [Go.Maps.has_put_same hm (kl_key b i)]
      exact (decide_eq_true (by omega)).symm
    · rw [Go.Maps.atKey_put_same hm (kl_key b i), if_pos (by omega)]
  · have hne : kl b a ≠ kl b i := fun e => he ((kl_iff b i a hb).1 e.symm)
    rw [if_neg (fun g => he g.2)]
    refine ⟨?_, ?_⟩
    · rw [Go.Maps.has_put_other hne]; exact (h a).1
    · rw [Go.Maps.atKey_put_other hne]; exact (h a).2
/-- a place near the end has no four bytes -/
theorem mapOk_end {b : List Int} {i : Nat} {D : DataW Unit} (h : MapOk b i D) (hl : b.length < i + 4) : MapOk b (i + 1) D := fun a => by
  rw [prev, if_neg (by omega)]
  exact h a

theorem Fin.lookup {w : World} {g : Nat} {A : Option Addr} {c : Nat} {b : List Int} {n BM BK i : Nat} (h : Fin w g A c b n BM BK i) (hb : ∀ x ∈ b, (Lit.int .u8 x).wf = true) (a : Nat) {w' : World} {S : Nat → Prop} (f : Fr S w w') (hS : ¬ S BM) :
    (Instr.lookup 40 (.map (some BM)) (k4 b a) true).run Try.prog w' = .ok (.tuple #[.int .i64 (if 0 ≤ prev b a i then prev b a i else 0), .bool (decide (0 ≤ prev b a i))]) w' := by
  obtain ⟨D, k, _, hm, hok⟩ := h.map
  have hm' : w'.ownsMap Try.prog 50 (plainElem Try.prog 3) BM k D := by
    obtain ⟨es, clock, hb, r⟩ := hm
    exact ⟨es, clock, f.blk hb hS, r⟩
  obtain ⟨v, ps, hrun, hv⟩ := hm'.look_ok law50 Try.underlying40 (zero3 w') (plainElem_int Try.underlying3 (by decide)) (key_is b a hb)
  rw [(hok a).1, (hok a).2] at *
  obtain ⟨z, rfl, hz, _⟩ := plainElem_int_inv Try.underlying3 hv
  simp only [Prod.mk.injEq, DataW.lit.injEq, Lit.int.injEq, true_and] at hz
  rw [hrun, hz.1]
theorem Fin.lookupA {w : World} {g : Nat} {A : Option Addr} {c : Nat} {b : List Int} {n BM BK i : Nat} (h : Fin w g A c b n BM BK i) (hb : ∀ x ∈ b, (Lit.int .u8 x).wf = true) (a : Nat) {w' : World} {S : Nat → Prop} (f : Fr S w w') (hS : ¬ S BM) :
    ∀ o m, (Instr.lookup 40 (.map (some BM)) (k4 b a) true).run Try.prog ((w'.alloc o).drewN m) = .ok (.tuple #[.int .i64 (if 0 ≤ prev b a i then prev b a i else 0), .bool (decide (0 ≤ prev b a i))]) ((w'.alloc o).drewN m) :=
  fun o m => h.lookup hb a ((f.alloc o).drewN m) hS
end Go.Proofs.Ytclamfdmgflofaa
