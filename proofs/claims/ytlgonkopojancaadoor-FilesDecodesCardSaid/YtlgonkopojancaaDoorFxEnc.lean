/- The walk of Encode. -/
import Derived.Test.YtlgonkopojancaaDoorFxApS
import Derived.Deep.RegionHeld3
import Derived.Laws.Bits64
namespace Go.Proofs.YtlgonkopojancaaDoor
open Go.RowKit

/-- a Time's number -/
def zig (t : Int) : Nat := if 0 ≤ t then (2 * t).toNat else (-2 * t - 1).toNat
/-- what tells of a file -/
def headB (f : Fi) : List Int := numb f.name.size ++ nums f.name ++ numb f.mode.toNat ++ numb (zig f.time) ++ numb f.body.length
def headsB (fs : List Fi) : List Int := fs.flatMap headB
def bodiesB (fs : List Fi) : List Int := fs.flatMap (fun f => f.body)
/-- files' bytes, as they stand -/
def encB (fs : List Fi) : List Int := numb fs.length ++ headsB fs ++ bodiesB fs
theorem headsB_snoc (fs : List Fi) (f : Fi) : headsB (fs ++ [f]) = headsB fs ++ headB f := by simp [headsB]
theorem bodiesB_snoc (fs : List Fi) (f : Fi) : bodiesB (fs ++ [f]) = bodiesB fs ++ f.body := by simp [bodiesB]
theorem numb64 {n : Nat} (h : n < 18446744073709551616) : (numb n).length ≤ 10 := numb_len 9 n (by omega)
theorem zig_lt {t : Int} (h1 : -9223372036854775808 ≤ t) (h2 : t ≤ 9223372036854775807) : zig t < 18446744073709551616 := by
  unfold zig; split <;> omega
theorem headB_len {f : Fi} (h : FOk f) (hb : f.body.length ≤ 1000000) (hs : f.name.size ≤ 1000000) : (headB f).length ≤ 1000040 := by
  have h1 := numb64 (n := f.name.size) (by omega)
  have h2 := numb64 (n := f.mode.toNat) (by have := h.mode; omega)
  have h3 := numb64 (zig_lt h.time.1 h.time.2)
  have h4 := numb64 (n := f.body.length) (by omega)
  unfold headB
  simp only [List.length_append, length_nums]
  omega

/-- the two rows and the file at hand -/
structure Two (B h : Nat) (w : World) (v5 v6 : Value) (L1 L2 : List Int) (cs : Array Value) : Prop where
  o5 : w.ownsRow 0 5 1 v5 L1.length (bts L1)
  o6 : w.ownsRow 0 5 1 v6 L2.length (bts L2)
  apart : ∀ j, v5.ownBlock = some j → v6.ownBlock ≠ some j
  f5 : From B v5
  f6 : From B v6
  hB : B ≤ h
  blk : w.heap[h]? = some (.cells cs 33 (0, 0))
theorem Two.size {B h : Nat} {w : World} {v5 v6 : Value} {L1 L2 : List Int} {cs : Array Value} (t : Two B h w v5 v6 L1 L2 cs) : B ≤ w.heap.size := Nat.le_trans t.hB (Nat.le_of_lt (blk_lt t.blk))
theorem Two.grow5 {B h : Nat} {w w' : World} {v5 v6 v' : Value} {L1 L2 L' : List Int} {cs : Array Value} (t : Two B h w v5 v6 L1 L2 cs) (ho : w'.ownsRow 0 5 1 v' L'.length (bts L')) (g : Grew v5 v' w w') : Two B h w' v' v6 L' L2 cs ∧ Below B w w' := by
  refine ⟨⟨ho, g.fr.own t.o6 (fun k hk e => t.apart k e.symm hk), fun j hj e => ?_, t.f5.grew g t.size, t.f6, t.hB, g.fr.blk t.blk (fun e => own_ne t.o5 t.blk (by decide) e.symm)⟩, g.below t.f5 t.size⟩
  rcases g.loc with l | ⟨i, l, hi⟩
  · rw [l] at hj; exact t.apart j hj e
  · rw [l] at hj
    injection hj with hj
    have := own_lt t.o6 e
    omega
theorem Two.grow6 {B h : Nat} {w w' : World} {v5 v6 v' : Value} {L1 L2 L' : List Int} {cs : Array Value} (t : Two B h w v5 v6 L1 L2 cs) (ho : w'.ownsRow 0 5 1 v' L'.length (bts L')) (g : Grew v6 v' w w') : Two B h w' v5 v' L1 L' cs ∧ Below B w w' := by
  refine ⟨⟨g.fr.own t.o5 (fun k hk e => t.apart k hk e.symm), ho, fun j hj e => ?_, t.f5, t.f6.grew g t.size, t.hB, g.fr.blk t.blk (fun e => own_ne t.o6 t.blk (by decide) e.symm)⟩, g.below t.f6 t.size⟩
  rcases g.loc with l | ⟨i, l, hi⟩
  · rw [l] at e; exact t.apart j hj e
  · rw [l] at e
    injection e with e
    have := own_lt t.o5 hj
    omega
theorem Two.drew {B h : Nat} {w : World} {v5 v6 : Value} {L1 L2 : List Int} {cs : Array Value} (t : Two B h w v5 v6 L1 L2 cs) : Two B h w.drew v5 v6 L1 L2 cs := ⟨t.o5, t.o6, t.apart, t.f5, t.f6, t.hB, t.blk⟩
theorem Two.c {B h : Nat} {w : World} {v5 v6 : Value} {L1 L2 : List Int} {f : Fi} {A : Option Addr} {n c : Nat} (t : Two B h w v5 v6 L1 L2 (fcells f A n c).toArray) :
    w.cell? ⟨h, 0, none⟩ = some (.string f.name) ∧ w.cell? ⟨h, 1, none⟩ = some (.int .u32 f.mode) ∧ w.cell? ⟨h, 2, none⟩ = some (.int .i64 f.time) ∧ w.cell? ⟨h, 3, none⟩ = some (.slice A n c) :=
  ⟨by rw [blk_cell t.blk]; rfl, by rw [blk_cell t.blk]; rfl, by rw [blk_cell t.blk]; rfl, by rw [blk_cell t.blk]; rfl⟩
theorem number_at (v : Value) (L : List Int) (N : Nat) (x : Int) (w : World) (hx : x = (N : Int)) (hN : N < 18446744073709551616) (ho : w.ownsRow 0 5 1 v L.length (bts L)) (hn : L.length ≤ 1000000000) :
    Calls Tryd.prog 29 #[v, .int .u64 x] w fun e w' => ∃ v', e = .returned v' ∧ w'.ownsRow 0 5 1 v' (L ++ numb N).length (bts (L ++ numb N)) ∧ Grew v v' w w' := by
  subst hx
  exact number_any v L N w hN ho hn
theorem own_app {w : World} {v : Value} {L K : List Int} {m : Nat} (hm : K.length = m) (h : w.ownsRow 0 5 1 v (L.length + m) (bts L ++ bts K)) : w.ownsRow 0 5 1 v (L ++ K).length (bts (L ++ K)) := by
  subst hm
  rw [List.length_append]
  unfold bts at *
  rw [List.map_append]
  exact h
theorem xor_ones (a : Nat) (h : a < 18446744073709551616) : a ^^^ 18446744073709551615 = 18446744073709551615 - a := by
  have e1 : (BitVec.ofNat 64 a ^^^ BitVec.allOnes 64).toNat = a ^^^ 18446744073709551615 := by
    rw [BitVec.toNat_xor, BitVec.toNat_ofNat, BitVec.toNat_allOnes, Nat.mod_eq_of_lt h]
  have e2 : (BitVec.ofNat 64 a ^^^ BitVec.allOnes 64).toNat = 18446744073709551615 - a := by
    rw [BitVec.xor_allOnes, BitVec.toNat_not, BitVec.toNat_ofNat, Nat.mod_eq_of_lt h]
  rw [← e1, e2]
theorem zig_x {t : Int} (h1 : -9223372036854775808 ≤ t) (h2 : t ≤ 9223372036854775807) : bits BinOp.xor .u64 (IntKind.u64.wrap (IntKind.u64.wrap t * 2)) (IntKind.u64.wrap (t / 9223372036854775808)) = (zig t : Int) := by
  by_cases h : 0 ≤ t
  · have e1 : IntKind.u64.wrap (IntKind.u64.wrap t * 2) = ((2 * t).toNat : Int) := by rw [IntKind.wrap_u64, IntKind.wrap_u64]; omega
    have e2 : IntKind.u64.wrap (t / 9223372036854775808) = ((0 : Nat) : Int) := by rw [IntKind.wrap_u64]; omega
    rw [e1, e2, bits_xor_u64_nat _ _ (by omega) (by decide), Nat.xor_zero]
    unfold zig
    rw [if_pos h]
  · have e1 : IntKind.u64.wrap (IntKind.u64.wrap t * 2) = ((2 * t + 18446744073709551616).toNat : Int) := by rw [IntKind.wrap_u64, IntKind.wrap_u64]; omega
    have e2 : IntKind.u64.wrap (t / 9223372036854775808) = ((18446744073709551615 : Nat) : Int) := by rw [IntKind.wrap_u64]; omega
    rw [e1, e2, bits_xor_u64_nat _ _ (by omega) (by decide), xor_ones _ (by omega)]
    unfold zig
    rw [if_neg h]
    omega
theorem headsB_len (fs : List Fi) (h : ∀ f ∈ fs, FOk f) (hb : ∀ f ∈ fs, f.body.length ≤ 1000000) (hs : ∀ f ∈ fs, f.name.size ≤ 1000000) : (headsB fs).length ≤ fs.length * 1000040 := by
  induction fs with
  | nil => simp [headsB]
  | cons f fs ih =>
    have h1 := ih (fun g hg => h g (by simp [hg])) (fun g hg => hb g (by simp [hg])) (fun g hg => hs g (by simp [hg]))
    have h2 := headB_len (h f (by simp)) (hb f (by simp)) (hs f (by simp))
    have e : headsB (f :: fs) = headB f ++ headsB fs := by simp [headsB]
    rw [e, List.length_append, List.length_cons, Nat.add_mul]
    omega
theorem bodiesB_len (fs : List Fi) (hb : ∀ f ∈ fs, f.body.length ≤ 1000000) : (bodiesB fs).length ≤ fs.length * 1000000 := by
  induction fs with
  | nil => simp [bodiesB]
  | cons f fs ih =>
    have h1 := ih (fun g hg => hb g (by simp [hg]))
    have h2 := hb f (by simp)
    have e : bodiesB (f :: fs) = f.body ++ bodiesB fs := by simp [bodiesB]
    rw [e, List.length_append, List.length_cons, Nat.add_mul]
    omega
theorem wrap_nat {n : Nat} (h : n < 18446744073709551616) : IntKind.u64.wrap (n : Int) = (n : Int) := by rw [IntKind.wrap_u64]; omega
end Go.Proofs.YtlgonkopojancaaDoor
