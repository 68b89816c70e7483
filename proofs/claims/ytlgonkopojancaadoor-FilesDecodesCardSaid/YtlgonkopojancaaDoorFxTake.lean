/- The walks of must and of the source's take. -/
import Derived.Test.YtlgonkopojancaaDoorFxEncW
namespace Go.Proofs.YtlgonkopojancaaDoor
open Go.RowKit

/-- what is thrown: ErrIndex -/
def EIX : List PanicEntry := [{ v := .iface 26 (.int .i64 162), recovered := false }]
theorem must_true (w : World) : Calls Tryd.prog 45 #[.bool true] w fun e w' => e = .returned (.tuple #[]) ∧ w' = w := by
  go_enter Tryd.func45, Tryd.ntmps45
  go_wp2
  go_end0
  exact ⟨rfl, rfl⟩
theorem must_false (w : World) : Calls Tryd.prog 45 #[.bool false] w fun e w' => e = .panicked EIX ∧ w' = w := by
  go_enter Tryd.func45, Tryd.ntmps45
  go_wp2
  exact ⟨rfl, rfl, rfl⟩

theorem must_no (b : Bool) (w : World) (hb : b = false) : Calls Tryd.prog 45 #[.bool b] w fun e w' => e = .panicked EIX ∧ w' = w := by
  subst hb
  exact must_false w
theorem must_yes (b : Bool) (w : World) (hb : b = true) : Calls Tryd.prog 45 #[.bool b] w fun e w' => e = .returned (.tuple #[]) ∧ w' = w := by
  subst hb
  exact must_true w

/-- a source of bytes at hand: the slice in the cell, and what it reads -/
structure Src (w : World) (g : Nat) (A : Option Addr) (n c : Nat) (xs : List Int) : Prop where
  rd : Reads w .u8 A n xs
  cap : n ≤ c
  cap63 : c ≤ 9223372036854775807
  far : 0 < n → A.map (·.block) ≠ some g
theorem add_zero (a : Addr) : a.add 0 = a := by unfold Addr.add; simp
theorem reads_at {w : World} {k : IntKind} {A : Option Addr} {n : Nat} {xs : List Int} (h : Reads w k A n xs) {j : Nat} (hj : j < n) : ∃ b o, A = some ⟨b, o, none⟩ ∧ w.cell? ⟨b, o + j, none⟩ = some (.int k (xs.getD j 0)) := by
  obtain ⟨b, o, e, hc⟩ := h.2.2 (by omega)
  exact ⟨b, o, e, hc j hj⟩
/-- where the rest of a slice begins -/
def rest (A : Option Addr) (N c : Nat) : Option Addr := if c = N then A else A.map (·.add N)
theorem rest_block {A : Option Addr} {N c : Nat} : (rest A N c).map (·.block) = A.map (·.block) := by
  unfold rest
  split
  · rfl
  · cases A with
    | none => rfl
    | some a =>
      simp only [Option.map_some]
      unfold Addr.add
      split <;> rfl
theorem Reads.drop {w : World} {k : IntKind} {A : Option Addr} {n : Nat} {xs : List Int} (h : Reads w k A n xs) (N c : Nat) (hN : N ≤ n) (hc : n ≤ c) : Reads w k (rest A N c) (n - N) (xs.drop N) := by
  refine ⟨by rw [List.length_drop, h.1], by have := h.2.1; omega, fun hp => ?_⟩
  obtain ⟨b, o, e, hcell⟩ := h.2.2 (by omega)
  have hne : ¬ c = N := by omega
  refine ⟨b, o + N, ?_, fun j hj => ?_⟩
  · unfold rest
    rw [if_neg hne, e]
    simp only [Option.map_some]
    unfold Addr.add
    by_cases h0 : N = 0
    · subst h0; rfl
    · rw [if_neg h0]
  · have := hcell (N + j) (by omega)
    rw [show o + N + j = o + (N + j) by omega, this]
    congr 2
    rw [List.getD_eq_getElem?_getD, List.getD_eq_getElem?_getD, List.getElem?_drop]
theorem Src.size {w : World} {g : Nat} {A : Option Addr} {n c : Nat} {xs : List Int} (h : Src w g A n c xs) : xs.length = n := h.rd.1
/-- behind a store into the cell -/
theorem Src.set {w : World} {g i : Nat} {A : Option Addr} {n c : Nat} {xs : List Int} (h : Src w g A n c xs) (u : Value) : Src (w.setCell ⟨g, i, none⟩ u) g A n c xs :=
  ⟨h.rd.fr (S := fun k => k = g) ((Fr.refl _ w).setCell ⟨g, i, none⟩ u (fun _ => rfl)) (fun hn b hb e => h.far hn (by rw [hb, e])), h.cap, h.cap63, h.far⟩

set_option maxRecDepth 20000 in
set_option maxHeartbeats 1000000 in
theorem take_yes (g : Nat) (cs : Array Value) (A : Option Addr) (n c N : Nat) (x : Int) (xs : List Int) (w : World) (hx : x = (N : Int)) (hg : w.heap[g]? = some (.cells cs 67 (0, 0))) (h0 : cs[0]? = some (.slice A n c)) (hs : Src w g A n c xs) (hN : N ≤ n) :
    Calls Tryd.prog 47 #[.pointer (some ⟨g, 0, none⟩), .int .u64 x] w fun e w' => e = .returned (.slice A N c) ∧ w' = w.setCell ⟨g, 0, none⟩ (.slice (rest A N c) (n - N) (c - N)) := by
  subst hx
  have hc0 : w.cell? ⟨g, 0, none⟩ = some (.slice A n c) := by rw [blk_cell hg]; exact h0
  have hf0 := blk_frozen hg 0
  have n63 := hs.rd.2.1
  have c63 := hs.cap63
  have hcap := hs.cap
  have hNZ : (N : Int) ≤ (n : Int) := by omega
  have hu : IntKind.u64.wrap (n : Int) = (n : Int) := wrap_nat (by omega)
  clear hs hg h0
  go_enter Tryd.func47, Tryd.ntmps47
  go_wp2_with (go_at_call 45; refine (must_true _).mono ?_; rintro e w1 ⟨rfl, rfl⟩)
  · go_ret
    exact ⟨rfl, by simp [rest]⟩
  · have hne : ¬ c = N := by assumption
    go_ret
    exact ⟨rfl, by rw [rest, if_neg hne]⟩
theorem take_no (g : Nat) (cs : Array Value) (A : Option Addr) (n c N : Nat) (x : Int) (w : World) (hx : x = (N : Int)) (hg : w.heap[g]? = some (.cells cs 67 (0, 0))) (h0 : cs[0]? = some (.slice A n c)) (hN : n < N) (n63 : n ≤ 9223372036854775807) :
    Calls Tryd.prog 47 #[.pointer (some ⟨g, 0, none⟩), .int .u64 x] w fun e w' => e = .panicked EIX ∧ w' = w := by
  subst hx
  have hc0 : w.cell? ⟨g, 0, none⟩ = some (.slice A n c) := by rw [blk_cell hg]; exact h0
  have hf0 := blk_frozen hg 0
  have hNZ : decide ((N : Int) ≤ (n : Int)) = false := by rw [decide_eq_false_iff_not]; omega
  have hNZ2 : ¬ (N : Int) ≤ (n : Int) := by omega
  have hu : IntKind.u64.wrap (n : Int) = (n : Int) := wrap_nat (by omega)
  clear hg h0
  go_enter Tryd.func47, Tryd.ntmps47
  go_wp2_with (go_at_call 45; refine (must_false _).mono ?_; rintro e w1 ⟨rfl, rfl⟩)
  exact ⟨rfl, rfl, rfl⟩

/-- the reader's three cells -/
def RB (w : World) (g : Nat) (bv lv sv : Value) : Prop := w.heap[g]? = some (.cells #[bv, lv, sv] 67 (0, 0))
theorem RB.fr {w w' : World} {g : Nat} {bv lv sv : Value} {S : Nat → Prop} (h : RB w g bv lv sv) (f : Fr S w w') (hS : ¬ S g) : RB w' g bv lv sv := f.blk h hS
theorem RB.lt {w : World} {g : Nat} {bv lv sv : Value} (h : RB w g bv lv sv) : g < w.heap.size := blk_lt h
theorem RB.set0 {w : World} {g : Nat} {bv lv sv : Value} (h : RB w g bv lv sv) (u : Value) : RB (w.setCell ⟨g, 0, none⟩ u) g u lv sv := by
  have := blk_set h 0 u
  exact this
theorem RB.set1 {w : World} {g : Nat} {bv lv sv : Value} (h : RB w g bv lv sv) (u : Value) : RB (w.setCell ⟨g, 1, none⟩ u) g bv u sv := by
  have := blk_set h 1 u
  exact this
theorem RB.set2 {w : World} {g : Nat} {bv lv sv : Value} (h : RB w g bv lv sv) (u : Value) : RB (w.setCell ⟨g, 2, none⟩ u) g bv lv u := by
  have := blk_set h 2 u
  exact this
theorem RB.c0 {w : World} {g : Nat} {bv lv sv : Value} (h : RB w g bv lv sv) : w.cell? ⟨g, 0, none⟩ = some bv := by rw [blk_cell h]; rfl
theorem RB.c1 {w : World} {g : Nat} {bv lv sv : Value} (h : RB w g bv lv sv) : w.cell? ⟨g, 1, none⟩ = some lv := by rw [blk_cell h]; rfl
theorem RB.c2 {w : World} {g : Nat} {bv lv sv : Value} (h : RB w g bv lv sv) : w.cell? ⟨g, 2, none⟩ = some sv := by rw [blk_cell h]; rfl
theorem RB.drew {w : World} {g : Nat} {bv lv sv : Value} (h : RB w g bv lv sv) : RB w.drew g bv lv sv := h
abbrev FrG (g : Nat) (w w' : World) : Prop := Fr (fun k => k = g) w w'
theorem frg_set {w : World} {g i : Nat} (u : Value) : FrG g w (w.setCell ⟨g, i, none⟩ u) := (Fr.refl _ w).setCell ⟨g, i, none⟩ u (fun _ => rfl)
theorem Src.fr {w w' : World} {g : Nat} {A : Option Addr} {n c : Nat} {xs : List Int} (h : Src w g A n c xs) (f : FrG g w w') : Src w' g A n c xs :=
  ⟨h.rd.fr f (fun hn b hb e => h.far hn (by rw [hb, e])), h.cap, h.cap63, h.far⟩
theorem Src.same {w w' : World} {g : Nat} {A : Option Addr} {n c : Nat} {xs : List Int} (h : Src w g A n c xs) (f : Below w.heap.size w w') : Src w' g A n c xs :=
  ⟨h.rd.same f, h.cap, h.cap63, h.far⟩
theorem Src.rest {w : World} {g : Nat} {A : Option Addr} {n c : Nat} {xs : List Int} (h : Src w g A n c xs) (N : Nat) (hN : N ≤ n) : Src w g (rest A N c) (n - N) (c - N) (xs.drop N) :=
  ⟨h.rd.drop N c hN h.cap, by have := h.cap; omega, by have := h.cap63; omega, fun hn => by rw [rest_block]; exact h.far (by omega)⟩

/-- what a take leaves: the piece, the rest -/
structure Took (w w' : World) (g : Nat) (A : Option Addr) (n c N : Nat) (xs : List Int) (lv sv : Value) : Prop where
  rb : RB w' g (.slice (rest A N c) (n - N) (c - N)) lv sv
  src : Src w' g (rest A N c) (n - N) (c - N) (xs.drop N)
  piece : Reads w' .u8 A N (xs.take N)
  fr : FrG g w w'
theorem took_any (g : Nat) (A : Option Addr) (n c N : Nat) (x : Int) (xs : List Int) (lv sv : Value) (w : World) (hx : x = (N : Int)) (hg : RB w g (.slice A n c) lv sv) (hs : Src w g A n c xs) (hN : N ≤ n) :
    Calls Tryd.prog 47 #[.pointer (some ⟨g, 0, none⟩), .int .u64 x] w fun e w' => e = .returned (.slice A N c) ∧ Took w w' g A n c N xs lv sv := by
  refine (take_yes g _ A n c N x xs w hx hg rfl hs hN).mono ?_
  rintro e w' ⟨rfl, rfl⟩
  exact ⟨rfl, hg.set0 _, (hs.rest N hN).set _, (hs.set _).rd.take N hN, frg_set _⟩
theorem took_no (g : Nat) (A : Option Addr) (n c N : Nat) (x : Int) (xs : List Int) (lv sv : Value) (w : World) (hx : x = (N : Int)) (hg : RB w g (.slice A n c) lv sv) (hs : Src w g A n c xs) (hN : n < N) :
    Calls Tryd.prog 47 #[.pointer (some ⟨g, 0, none⟩), .int .u64 x] w fun e w' => e = .panicked EIX ∧ w' = w :=
  take_no g _ A n c N x w hx hg rfl hN hs.rd.2.1
end Go.Proofs.YtlgonkopojancaaDoor
