/- The reader as it lies in memory; what tells of a file is read: plain. -/
import Derived.Test.YtlgonkopojancaaDoorFxSorted
namespace Go.Proofs.YtlgonkopojancaaDoor
open Go.RowKit

/-- a Time off its number -/
def unzig (t : Nat) : Int := if t % 2 = 0 then ((t / 2 : Nat) : Int) else -((t / 2 : Nat) : Int) - 1
/-- so many bytes at the head -/
def cutP (n : Nat) (xs : List Int) : Option (List Int × List Int) := if n ≤ xs.length then some (xs.take n, xs.drop n) else none
/-- what tells of a file: it, the number of bytes in it, the rest -/
def fileP (xs : List Int) : Option (Fi × Nat × List Int) :=
  match getN xs with
  | none => none
  | some (ln, r1) => match cutP ln r1 with
    | none => none
    | some (nm, r2) => match getN r2 with
      | none => none
      | some (mode, r3) => if mode ≤ 4095 then (match getN r3 with
        | none => none
        | some (t, r4) => match getN r4 with
          | none => none
          | some (size, r5) => some (⟨strOf nm, mode, unzig t, []⟩, size, r5)) else none

def u64s (zs : List Nat) : List Value := zs.map (fun (z : Nat) => Value.int .u64 (z : Int))
theorem u64s_snoc (zs : List Nat) (z : Nat) : u64s (zs ++ [z]) = u64s zs ++ [Value.int .u64 (z : Int)] := by simp [u64s]
theorem length_u64s (zs : List Nat) : (u64s zs).length = zs.length := by simp [u64s]
theorem info47 : (Tryd.prog.info? 47).map (fun i => (i.zero, i.size, i.bytes)) = some (some (.int .u64 0), 1, 8) := by kernel_rfl

/-- the reader: its bytes lie below B, the rest is its own -/
structure Rdr (B g : Nat) (w : World) (A : Option Addr) (n c : Nat) (xs : List Int) (lv sv : Value) (fs : List Fi) (zs : List Nat) : Prop where
  rb : RB w g (.slice A n c) lv sv
  src : Src w g A n c xs
  ol : w.ownsRow 0 33 4 lv fs.length (flat (fs.map bareV))
  os : w.ownsRow 0 47 1 sv zs.length (u64s zs)
  low : ∀ b, A.map (·.block) = some b → b < B
  hB : B ≤ g
  fl : From B lv
  fz : From B sv
namespace Rdr
variable {B g : Nat} {w w' : World} {A : Option Addr} {n c : Nat} {xs : List Int} {lv sv : Value} {fs : List Fi} {zs : List Nat}
theorem size (h : Rdr B g w A n c xs lv sv fs zs) : B ≤ w.heap.size := Nat.le_trans h.hB (Nat.le_of_lt h.rb.lt)
theorem gl (h : Rdr B g w A n c xs lv sv fs zs) : lv.ownBlock ≠ some g := own_ne h.ol h.rb (by decide)
theorem gs (h : Rdr B g w A n c xs lv sv fs zs) : sv.ownBlock ≠ some g := own_ne h.os h.rb (by decide)
theorem drew (h : Rdr B g w A n c xs lv sv fs zs) : Rdr B g w.drew A n c xs lv sv fs zs := ⟨h.rb, h.src.same (Below.refl _ _).drew, h.ol, h.os, h.low, h.hB, h.fl, h.fz⟩
theorem src_below (h : Rdr B g w A n c xs lv sv fs zs) (f : Below B w w') : Src w' g A n c xs := ⟨h.src.rd.below f (fun _ b hb => h.low b hb), h.src.cap, h.src.cap63, h.src.far⟩
/-- all that was there stays -/
theorem same (h : Rdr B g w A n c xs lv sv fs zs) (f : Same w w') : Rdr B g w' A n c xs lv sv fs zs :=
  ⟨h.rb.fr f (fun e => e), h.src_below (f.belowSame h.size), f.own h.ol (fun _ _ e => e), f.own h.os (fun _ _ e => e), h.low, h.hB, h.fl, h.fz⟩
/-- the source has gone on -/
theorem go (h : Rdr B g w A n c xs lv sv fs zs) {A' : Option Addr} {n' c' : Nat} {r : List Int} (f : FrG g w w') (hb : RB w' g (.slice A' n' c') lv sv) (hs : Src w' g A' n' c' r) (hA : A'.map (·.block) = A.map (·.block)) : Rdr B g w' A' n' c' r lv sv fs zs :=
  ⟨hb, hs, f.own h.ol (fun k hk e => h.gl (by rw [hk, e])), f.own h.os (fun k hk e => h.gs (by rw [hk, e])), fun b hb => h.low b (hA ▸ hb), h.hB, h.fl, h.fz⟩
theorem below (h : Rdr B g w A n c xs lv sv fs zs) (f : FrG g w w') : Below B w w' := f.below B h.size (fun k hk e => by have := h.hB; omega)
/-- a file more -/
theorem setL (h : Rdr B g w A n c xs lv sv fs zs) {w1 : World} {lv' : Value} {f : Fi} (gr : Grew lv lv' w w1) (ho : w1.ownsRow 0 33 4 lv' (fs.length + 1) (flat (fs.map bareV) ++ (bareV f).cells)) :
    Rdr B g (w1.setCell ⟨g, 1, none⟩ lv') A n c xs lv' sv (fs ++ [f]) zs ∧ Below B w (w1.setCell ⟨g, 1, none⟩ lv') := by
  have hb1 : Below B w w1 := gr.below h.fl h.size
  have hrb : RB w1 g (.slice A n c) lv sv := h.rb.fr gr.fr (fun e => h.gl e.symm)
  have hne : lv'.ownBlock ≠ some g := own_ne ho hrb (by decide)
  have hs1 : w1.ownsRow 0 47 1 sv zs.length (u64s zs) := gr.fr.own h.os (fun k hk e => own_own_ne h.ol h.os (by decide) e.symm hk)
  have hns : sv.ownBlock ≠ some g := own_ne hs1 hrb (by decide)
  have hb2 : Below B w (w1.setCell ⟨g, 1, none⟩ lv') := hb1.setCell (p := ⟨g, 1, none⟩) h.hB _
  refine ⟨⟨hrb.set1 _, ?_, ?_, ?_, h.low, h.hB, h.fl.grew gr h.size, h.fz⟩, hb2⟩
  · exact ⟨h.src.rd.below hb2 (fun _ b hb => h.low b hb), h.src.cap, h.src.cap63, h.src.far⟩
  · rw [List.map_append, flat_append, List.length_append]
    have := ownsRow_setCell_other ho (a := ⟨g, 1, none⟩) hne lv'
    simpa [flat] using this
  · exact ownsRow_setCell_other hs1 (a := ⟨g, 1, none⟩) hns lv'
/-- a size more -/
theorem setS (h : Rdr B g w A n c xs lv sv fs zs) {w1 : World} {sv' : Value} {z : Nat} (gr : Grew sv sv' w w1) (ho : w1.ownsRow 0 47 1 sv' (zs.length + 1) (u64s zs ++ [.int .u64 z])) :
    Rdr B g (w1.setCell ⟨g, 2, none⟩ sv') A n c xs lv sv' fs (zs ++ [z]) ∧ Below B w (w1.setCell ⟨g, 2, none⟩ sv') := by
  have hb1 : Below B w w1 := gr.below h.fz h.size
  have hrb : RB w1 g (.slice A n c) lv sv := h.rb.fr gr.fr (fun e => h.gs e.symm)
  have hne : sv'.ownBlock ≠ some g := own_ne ho hrb (by decide)
  have hs1 : w1.ownsRow 0 33 4 lv fs.length (flat (fs.map bareV)) := gr.fr.own h.ol (fun k hk e => own_own_ne h.ol h.os (by decide) hk e.symm)
  have hns : lv.ownBlock ≠ some g := own_ne hs1 hrb (by decide)
  have hb2 : Below B w (w1.setCell ⟨g, 2, none⟩ sv') := hb1.setCell (p := ⟨g, 2, none⟩) h.hB _
  refine ⟨⟨hrb.set2 _, ?_, ?_, ?_, h.low, h.hB, h.fl, h.fz.grew gr h.size⟩, hb2⟩
  · exact ⟨h.src.rd.below hb2 (fun _ b hb => h.low b hb), h.src.cap, h.src.cap63, h.src.far⟩
  · exact ownsRow_setCell_other hs1 (a := ⟨g, 2, none⟩) hns sv'
  · rw [u64s_snoc, List.length_append]
    exact ownsRow_setCell_other ho (a := ⟨g, 2, none⟩) hne sv'
end Rdr

/-- what the number leaves of a reader -/
def RNum (B g : Nat) (w : World) (xs : List Int) (lv sv : Value) (fs : List Fi) (zs : List Nat) (e : Ending) (w' : World) : Prop :=
  Below B w w' ∧ match getN xs with
    | some (N, r) => e = .returned (.int .u64 N) ∧ ∃ A n c, Rdr B g w' A n c r lv sv fs zs
    | none => e = .panicked EIX
theorem rnum_any {B g : Nat} {w : World} {A : Option Addr} {n c : Nat} {xs : List Int} {lv sv : Value} {fs : List Fi} {zs : List Nat} (h : Rdr B g w A n c xs lv sv fs zs) (hb : Bts xs) :
    Calls Tryd.prog 44 #[.pointer (some ⟨g, 0, none⟩)] w (RNum B g w xs lv sv fs zs) := by
  refine (numberS_any g A n c xs lv sv w h.rb h.src hb).mono ?_
  rintro e w' ⟨hf, hp⟩
  refine ⟨h.below hf, ?_⟩
  rcases hN : getN xs with _ | ⟨N, r⟩
  · rw [hN] at hp; exact hp
  · rw [hN] at hp
    obtain ⟨he, A', n', c', h1, h2, h3⟩ := hp
    exact ⟨he, A', n', c', h.go hf h1 h2 h3⟩
theorem rnum_some {B g : Nat} {w : World} {A : Option Addr} {n c : Nat} {xs : List Int} {lv sv : Value} {fs : List Fi} {zs : List Nat} (h : Rdr B g w A n c xs lv sv fs zs) (hb : Bts xs) {N : Nat} {r : List Int} (hN : getN xs = some (N, r)) :
    Calls Tryd.prog 44 #[.pointer (some ⟨g, 0, none⟩)] w fun e w' => e = .returned (.int .u64 N) ∧ (∃ A n c, Rdr B g w' A n c r lv sv fs zs) ∧ Below B w w' := by
  refine (rnum_any h hb).mono ?_
  rintro e w' ⟨hf, hp⟩
  rw [hN] at hp
  exact ⟨hp.1, hp.2, hf⟩
theorem rnum_none {B g : Nat} {w : World} {A : Option Addr} {n c : Nat} {xs : List Int} {lv sv : Value} {fs : List Fi} {zs : List Nat} (h : Rdr B g w A n c xs lv sv fs zs) (hb : Bts xs) (hN : getN xs = none) :
    Calls Tryd.prog 44 #[.pointer (some ⟨g, 0, none⟩)] w fun e w' => e = .panicked EIX ∧ Below B w w' := by
  refine (rnum_any h hb).mono ?_
  rintro e w' ⟨hf, hp⟩
  rw [hN] at hp
  exact ⟨hp, hf⟩
theorem rtake_some {B g : Nat} {w : World} {A : Option Addr} {n c : Nat} {xs : List Int} {lv sv : Value} {fs : List Fi} {zs : List Nat} (h : Rdr B g w A n c xs lv sv fs zs) (N : Nat) (x : Int) (hx : x = (N : Int)) (hN : N ≤ xs.length) :
    Calls Tryd.prog 47 #[.pointer (some ⟨g, 0, none⟩), .int .u64 x] w fun e w' => ∃ A' c', e = .returned (.slice A' N c') ∧ Reads w' .u8 A' N (xs.take N) ∧ (∀ b, A'.map (·.block) = some b → b < B) ∧ (∃ A n c, Rdr B g w' A n c (xs.drop N) lv sv fs zs) ∧ Below B w w' := by
  have hl := h.src.size
  refine (took_any g A n c N x xs lv sv w hx h.rb h.src (by omega)).mono ?_
  rintro e w' ⟨rfl, t⟩
  exact ⟨A, c, rfl, t.piece, h.low, ⟨_, _, _, h.go t.fr t.rb t.src rest_block⟩, h.below t.fr⟩
theorem rtake_none {B g : Nat} {w : World} {A : Option Addr} {n c : Nat} {xs : List Int} {lv sv : Value} {fs : List Fi} {zs : List Nat} (h : Rdr B g w A n c xs lv sv fs zs) (N : Nat) (x : Int) (hx : x = (N : Int)) (hN : xs.length < N) :
    Calls Tryd.prog 47 #[.pointer (some ⟨g, 0, none⟩), .int .u64 x] w fun e w' => e = .panicked EIX ∧ Below B w w' := by
  have hl := h.src.size
  refine (took_no g A n c N x xs lv sv w hx h.rb h.src (by omega)).mono ?_
  rintro e w' ⟨rfl, rfl⟩
  exact ⟨rfl, Below.refl _ _⟩
theorem getN_bts {xs r : List Int} {N : Nat} (hb : Bts xs) (h : getN xs = some (N, r)) : Bts r ∧ N < 18446744073709551616 := by
  obtain ⟨h1, rfl⟩ := (getN_spec hb N r).1 h
  exact ⟨fun x hx => hb x (by simp [hx]), h1⟩
end Go.Proofs.YtlgonkopojancaaDoor
