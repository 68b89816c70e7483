/- Put of both, whatever is put. -/
import Derived.Test.YtghahbododnafaaOpen
namespace Go.Proofs.Ytghahbododnafaa
open Go.RowKit
open Bt

/-- the bits behind a Put -/
def pl (L : List Bool) (num bits : Int) : List Bool := if 0 ≤ bits ∧ bits ≤ 32 ∧ num < 2 ^ bits.toNat then L ++ bitsOf num.toNat bits.toNat else L
/-- what a Put answers -/
def pe (num bits : Int) : Int := if 0 ≤ bits ∧ bits ≤ 32 ∧ num < 2 ^ bits.toNat then 0 else 1
theorem pl_len (L : List Bool) (num bits : Int) : (pl L num bits).length ≤ L.length + 32 := by
  unfold pl
  split
  · rw [List.length_append, length_bitsOf]; omega
  · omega
theorem pe_cases (num bits : Int) : pe num bits = 0 ∨ pe num bits = 1 := by unfold pe; split <;> simp

theorem put_any (g : Nat) (v0 : Value) (L : List Bool) (num bits : Int) (w : World) (h0 : 0 ≤ num) (hw : IsW w g v0 L) (hL : L.length ≤ 1000000) :
    Calls Try.prog 10 #[.pointer (some ⟨g, 0, none⟩), .int .u64 num, .int .i64 bits] w fun e w' => e = .returned (.int .i64 (pe num bits)) ∧ ∃ v, IsW w' g v (pl L num bits) ∧ WTurn w w' g v0 v := by
  by_cases h : 0 ≤ bits ∧ bits ≤ 32 ∧ num < 2 ^ bits.toNat
  · unfold pe pl
    rw [if_pos h, if_pos h]
    exact put_ok g v0 L num bits w h0 h hw hL
  · unfold pe pl
    rw [if_neg h, if_neg h]
    refine (put_bad g num bits w h).mono ?_
    rintro e w' ⟨rfl, rfl⟩
    exact ⟨rfl, v0, hw, WTurn.refl _ _ _⟩

theorem rput_any (g : Nat) (v0 : Value) (L : List Bool) (p num bits : Int) (w : World) (h0 : 0 ≤ num) (h64 : num ≤ 18446744073709551615) (hw : IsB w g v0 L p) (hL : L.length ≤ 1000000) :
    Calls Try.prog 11 #[.pointer (some ⟨g, 0, none⟩), .int .u64 num, .int .i64 bits] w fun e w' => e = .returned (.int .i64 (pe num bits)) ∧ ∃ v, IsB w' g v (pl L num bits) p ∧ WTurn w w' g v0 v := by
  by_cases h : 0 ≤ bits ∧ bits ≤ 32 ∧ num < 2 ^ bits.toNat
  · unfold pe pl
    rw [if_pos h, if_pos h]
    exact rput_good g v0 L p num bits w h0 h64 h hw hL
  · unfold pe pl
    rw [if_neg h, if_neg h]
    refine (rput_bad g num bits w h).mono ?_
    rintro e w' ⟨rfl, rfl⟩
    exact ⟨rfl, v0, hw, WTurn.refl _ _ _⟩

/-- the reference's bits stay while a Writer turns -/
theorem IsB.turn {w0 w : World} {g gb : Nat} {v0 v vb : Value} {L M : List Bool} {p : Int} (h : IsB w0 gb vb M p) (hw : IsW w0 g v0 L) (t : WTurn w0 w g v0 v) : IsB w gb vb M p := by
  refine h.fr t.fr (fun e => ?_) (fun j hj e => ?_)
  · rcases e with e | e
    · subst e
      have h1 := h.blk
      rw [hw.blk] at h1
      simp at h1
    · exact own_ne hw.own h.blk (by decide) e.symm
  · rcases e with e | e
    · subst e; exact own_ne h.own hw.blk (by decide) hj
    · exact own_own_ne h.own hw.own (by decide) hj e.symm
theorem IsW.turn {w0 w : World} {g gb : Nat} {v v0 vb : Value} {L M : List Bool} {p : Int} (h : IsW w0 g v L) (hb : IsB w0 gb v0 M p) (t : WTurn w0 w gb v0 vb) : IsW w g v L := by
  refine h.fr t.fr (fun e => ?_) (fun j hj e => ?_)
  · rcases e with e | e
    · subst e
      have h1 := h.blk
      rw [hb.blk] at h1
      simp at h1
    · exact own_ne hb.own h.blk (by decide) e.symm
  · rcases e with e | e
    · subst e; exact own_ne h.own hb.blk (by decide) hj
    · exact own_own_ne h.own hb.own (by decide) hj e.symm

/-- a script's cells, in any world in which what was there stays -/
theorem ReadsCalls.at_ {w W : World} {A : Option Addr} {n : Nat} {cl : Nat → Int × Int × Bool} (h : ReadsCalls w A n cl) (b : Below w.heap.size w W) {i : Nat} (hi : i < n) :
    ∃ bb o, A = some ⟨bb, o, none⟩ ∧ W.cell? ⟨bb, o + i * 3, none⟩ = some (.int .u64 (cl i).1) ∧ W.cell? ⟨bb, o + i * 3 + 1, none⟩ = some (.int .i64 (cl i).2.1) ∧ W.cell? ⟨bb, o + i * 3 + 2, none⟩ = some (.bool (cl i).2.2) := by
  obtain ⟨bb, o, e, hc⟩ := h.cells (by omega)
  obtain ⟨h0, h1, h2⟩ := hc i hi
  have hlt := World.block_lt_of_cell? w _ h0
  exact ⟨bb, o, e, (b.cell (p := ⟨bb, o + i * 3, none⟩) hlt).trans h0, (b.cell (p := ⟨bb, o + i * 3 + 1, none⟩) hlt).trans h1, (b.cell (p := ⟨bb, o + i * 3 + 2, none⟩) hlt).trans h2⟩

/-- string(b), b a slice of bytes that is read -/
theorem conv_reads {w : World} {A : Option Addr} {n c : Nat} {xs : List Int} (h : Reads w .u8 A n xs) : (convert 25 9 (.slice A n c)).run Try.prog w = .ok (.string (strOfNums xs)) w := by
  have hn : xs.length = n := h.1
  rcases A with _ | ad
  · have h0 : n = 0 := by
      rcases Nat.eq_zero_or_pos n with h0 | h0
      · exact h0
      · obtain ⟨b, o, h', _⟩ := h.2.2 h0
        cases h'
    subst h0
    obtain rfl : xs = [] := List.eq_nil_of_length_eq_zero hn
    exact run_convert_bytes_nil w 25 5 Try.underlying25 Try.underlying5 0 c 9 Try.underlying9
  · have hl : (loadCells ad n).run Try.prog w = .ok (xs.map (Value.int .u8)).toArray w := by
      have := run_loadCells_list (P := Try.prog) w ad (xs.map (Value.int .u8)) (fun j v hj => by
        have hjl : j < xs.length := by
          have := (List.getElem?_eq_some_iff.1 hj).1
          simpa using this
        exact h.cells rfl (by omega) j v hj)
      simpa [hn] using this
    rw [run_convert_bytes_string w 25 9 5 _ n c Try.underlying25 Try.underlying5 Try.underlying9, run_bytesToString w ad n c xs hl, foldl_push_bytes]
    simp [strOfNums, ByteArray.empty, ByteArray.emptyWithCapacity]
    rfl
end Go.Proofs.Ytghahbododnafaa
