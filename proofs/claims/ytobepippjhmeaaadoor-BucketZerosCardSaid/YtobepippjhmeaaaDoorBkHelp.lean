/- Small forms of the contracts, for the laws' walks. -/
import Derived.Test.YtobepippjhmeaaaDoorBkOpen
namespace Go.Proofs.YtobepippjhmeaaaDoor
open Go.RowKit
open Bk

theorem own_readsc {w : World} {base n : Nat} {e : TypeId} {v : Value} {xs : List Int} (h : w.ownsRow base e 1 v n (xs.map (Value.int .u8))) : ∃ A c, v = .slice A n c ∧ Reads w .u8 A n xs ∧ n ≤ c := by
  obtain ⟨A, c, e1, hr⟩ := own_reads h
  refine ⟨A, c, e1, hr, ?_⟩
  rcases h.2 with ⟨h1, h2⟩ | ⟨g, cap, cur, h1, _, _, hc, _⟩
  · rw [e1] at h1; injection h1 with _ h3 h4; omega
  · rw [e1] at h1; injection h1 with _ h3 h4; omega

theorem size_at (k : Int) (n : Nat) (h : k = n) (hn : n ≤ 4194304) (w : World) : Calls Tryd.prog 11 #[.int .i64 k] w fun e w' => e = .returned (.tuple #[.int .i64 (size n), .int .i64 0]) ∧ w' = w := by
  subst h
  exact size_good n w hn

theorem pad_n (A : Option Addr) (c : Nat) (zs : List Int) (w : World) (hr : Reads w .u8 A zs.length zs) (hl : zs.length ≤ 10000) :
    Calls Tryd.prog 13 #[.slice A zs.length c] w fun e w' => ∃ A' c', e = .returned (.tuple #[.slice A' (size (zs.length + 1)) c', .int .i64 0]) ∧ size (zs.length + 1) ≤ c' ∧ Reads w' .u8 A' (size (zs.length + 1)) (padL zs) ∧ Below w.heap.size w w' := by
  have := pad_any A c zs w hr (by omega)
  rw [length_padL zs (by omega)] at this
  exact this

theorem rpad_n (A : Option Addr) (c : Nat) (zs : List Int) (w : World) (hr : Reads w .u8 A zs.length zs) (hl : zs.length ≤ 10000) :
    Calls Tryd.prog 14 #[.slice A zs.length c] w fun e w' => ∃ A' c', e = .returned (.tuple #[.slice A' (size (zs.length + 1)) c', .int .i64 0]) ∧ Reads w' .u8 A' (size (zs.length + 1)) (padL zs) ∧ Below w.heap.size w w' := by
  have := rpad_any A c zs w hr (by omega)
  rw [length_padL zs (by omega)] at this
  exact this

theorem unpad_n (A : Option Addr) (c : Nat) (zs : List Int) (w : World) (hr : Reads w .u8 A (size (zs.length + 1)) (padL zs)) (hc : size (zs.length + 1) ≤ c) (hl : zs.length ≤ 10000) :
    Calls Tryd.prog 15 #[.slice A (size (zs.length + 1)) c] w fun e w' => Gave w zs 0 e w' := by
  have e := length_padL zs (by omega)
  have := unpad_good A c zs w (by rw [e]; exact hr) (by rw [e]; exact hc) hl
  rw [e] at this
  exact this

theorem size_small (n : Nat) (h : n ≤ 10001) : size n ≤ 13000 := by
  rcases size_near n (by omega) with h | h <;> omega
/-- what a call makes is in no way seen below -/
theorem alloc_grown {w w' : World} {e : TypeId} {cs : Array Value} (h : Fr (fun k => some k = (Value.slice (some ⟨w.heap.size, 0, none⟩) 0 0).ownBlock) (w.alloc (.cells cs e)) w') : Below w.heap.size w w' := by
  have f1 : Same w (w.alloc (.cells cs e)) := (Fr.refl _ _).alloc _
  exact (below_fr f1).trans (h.below w.heap.size f1.size (fun k hk e => by simp [Value.ownBlock] at e; omega))
theorem grown_from {w w' : World} {v : Value} {B : Nat} (h : Fr (fun k => some k = v.ownBlock) w w') (hB : B ≤ w.heap.size) (hv : From B v) : Below B w w' :=
  h.below B hB (fun k hk e => by have := hv k e.symm; omega)
theorem from_alloc {w0 : World} {v : Value} {c : Nat} {e : TypeId} {cs : Array Value} (h : v.ownBlock = (Value.slice (some ⟨w0.heap.size, 0, none⟩) 0 c).ownBlock ∨ v.ownBlock = some (w0.alloc (.cells cs e)).heap.size) : From w0.heap.size v := fun j hj => by
  rcases h with h | h
  · rw [h] at hj; simp [Value.ownBlock] at hj; omega
  · rw [h] at hj; simp at hj; omega
end Go.Proofs.YtobepippjhmeaaaDoor
