/- The walks of the small calls: Count, Left, New, bytes.Clone, Bytes. -/
import Derived.Test.YtghahbododnafaaRef
namespace Go.Proofs.Ytghahbododnafaa
open Go.RowKit
open Bt

abbrev Same (w w' : World) : Prop := Fr (fun _ => False) w w'
/-- the row lies in a new block (or there is none) -/
def Fresh (w : World) (v : Value) : Prop := ∀ j, v.ownBlock = some j → w.heap.size ≤ j

theorem IsW.fr {w w' : World} {g : Nat} {v : Value} {L : List Bool} {S : Nat → Prop} (h : IsW w g v L) (f : Fr S w w') (hg : ¬ S g) (hv : ∀ j, v.ownBlock = some j → ¬ S j) : IsW w' g v L := ⟨f.blk h.blk hg, f.own h.own hv, h.le⟩
theorem IsW.same {w w' : World} {g : Nat} {v : Value} {L : List Bool} (h : IsW w g v L) (f : Same w w') : IsW w' g v L := h.fr f (fun h => h) (fun _ _ h => h)
theorem IsB.fr {w w' : World} {g : Nat} {v : Value} {L : List Bool} {p : Int} {S : Nat → Prop} (h : IsB w g v L p) (f : Fr S w w') (hg : ¬ S g) (hv : ∀ j, v.ownBlock = some j → ¬ S j) : IsB w' g v L p := ⟨f.blk h.blk hg, f.own h.own hv⟩
theorem IsB.same {w w' : World} {g : Nat} {v : Value} {L : List Bool} {p : Int} (h : IsB w g v L p) (f : Same w w') : IsB w' g v L p := h.fr f (fun h => h) (fun _ _ h => h)

theorem ret_i64 {a b : Int} (h : a = b) : Ending.returned (.int .i64 a) = .returned (.int .i64 b) := by rw [h]

set_option maxHeartbeats 400000 in
theorem count_q (g : Nat) (v : Value) (L : List Bool) (w : World) (hw : IsW w g v L) (hL : L.length ≤ 1000000) :
    Calls Try.prog 12 #[.pointer (some ⟨g, 0, none⟩)] w fun e w' => e = .returned (.int .i64 L.length) ∧ ∃ m, w' = w.drewN m := by
  have c0 : w.cell? ⟨g, 0, none⟩ = some v := by rw [blk_cell hw.blk]; rfl
  have c2 : w.cell? ⟨g, 2, none⟩ = some (.int .i64 ((L.length - 8 * (L.length / 8) : Nat))) := by rw [blk_cell hw.blk]; rfl
  obtain ⟨A, c, rfl⟩ := own_shape hw.own
  clear hw
  go_enter Try.func12, Try.ntmps12
  go_wp2
  go_quiet (fail)
  go_wp2
  go_ret
  refine ⟨ret_i64 ?_, _, rfl⟩
  omega
theorem count_any (g : Nat) (v : Value) (L : List Bool) (w : World) (hw : IsW w g v L) (hL : L.length ≤ 1000000) :
    Calls Try.prog 12 #[.pointer (some ⟨g, 0, none⟩)] w fun e w' => e = .returned (.int .i64 L.length) ∧ Same w w' :=
  (count_q g v L w hw hL).mono fun _ _ ⟨he, m, hm⟩ => ⟨he, by rw [hm]; exact (Fr.refl _ _).drewN _⟩

set_option maxHeartbeats 400000 in
theorem rleft_q (g : Nat) (v : Value) (L : List Bool) (p : Nat) (w : World) (hw : IsB w g v L p) (hL : L.length ≤ 1000000) (hp : p ≤ L.length) :
    Calls Try.prog 22 #[.pointer (some ⟨g, 0, none⟩)] w fun e w' => e = .returned (.int .i64 ((L.length : Int) - p)) ∧ ∃ m, w' = w.drewN m := by
  have c0 : w.cell? ⟨g, 0, none⟩ = some v := by rw [blk_cell hw.blk]; rfl
  have c2 : w.cell? ⟨g, 1, none⟩ = some (.int .i64 p) := by rw [blk_cell hw.blk]; rfl
  obtain ⟨A, c, rfl⟩ := own_shape hw.own
  clear hw
  go_enter Try.func22, Try.ntmps22
  go_wp2
  go_quiet (fail)
  go_wp2
  go_ret
  exact ⟨ret_i64 (by first | rfl | (simp only [IntKind.wrap_i64]; omega)), _, rfl⟩
theorem rleft_any (g : Nat) (v : Value) (L : List Bool) (p : Nat) (w : World) (hw : IsB w g v L p) (hL : L.length ≤ 1000000) (hp : p ≤ L.length) :
    Calls Try.prog 22 #[.pointer (some ⟨g, 0, none⟩)] w fun e w' => e = .returned (.int .i64 ((L.length : Int) - p)) ∧ Same w w' :=
  (rleft_q g v L p w hw hL hp).mono fun _ _ ⟨he, m, hm⟩ => ⟨he, by rw [hm]; exact (Fr.refl _ _).drewN _⟩

/-- a Reader at block g over the bytes xs, p bits taken -/
structure IsR (w : World) (g : Nat) (A : Option Addr) (c : Nat) (xs : List Int) (p : Int) : Prop where
  blk : w.heap[g]? = some (.cells #[.slice A xs.length c, .int .i64 p] 52 (0, 0))
  reads : Reads w .u8 A xs.length xs
  ne : 0 < xs.length → ∀ b, A.map (·.block) = some b → b ≠ g

theorem IsR.fr {w w' : World} {g : Nat} {A : Option Addr} {c : Nat} {xs : List Int} {p : Int} {S : Nat → Prop} (h : IsR w g A c xs p) (f : Fr S w w') (hg : ¬ S g) (hv : 0 < xs.length → ∀ b, A.map (·.block) = some b → ¬ S b) : IsR w' g A c xs p := ⟨f.blk h.blk hg, h.reads.fr f hv, h.ne⟩
theorem IsR.same {w w' : World} {g : Nat} {A : Option Addr} {c : Nat} {xs : List Int} {p : Int} (h : IsR w g A c xs p) (f : Same w w') : IsR w' g A c xs p := h.fr f (fun h => h) (fun _ _ _ h => h)

set_option maxHeartbeats 400000 in
theorem left_q (g : Nat) (A : Option Addr) (c : Nat) (xs : List Int) (p : Nat) (w : World) (hw : IsR w g A c xs p) (hL : xs.length ≤ 1000000) (hp : p ≤ 8 * xs.length) :
    Calls Try.prog 21 #[.pointer (some ⟨g, 0, none⟩)] w fun e w' => e = .returned (.int .i64 (8 * (xs.length : Int) - p)) ∧ ∃ m, w' = w.drewN m := by
  have c0 : w.cell? ⟨g, 0, none⟩ = some (.slice A xs.length c) := by rw [blk_cell hw.blk]; rfl
  have c2 : w.cell? ⟨g, 1, none⟩ = some (.int .i64 p) := by rw [blk_cell hw.blk]; rfl
  clear hw
  go_enter Try.func21, Try.ntmps21
  go_wp2
  go_quiet (fail)
  go_wp2
  go_ret
  exact ⟨ret_i64 (by first | rfl | (simp only [IntKind.wrap_i64]; omega)), _, rfl⟩
theorem left_any (g : Nat) (A : Option Addr) (c : Nat) (xs : List Int) (p : Nat) (w : World) (hw : IsR w g A c xs p) (hL : xs.length ≤ 1000000) (hp : p ≤ 8 * xs.length) :
    Calls Try.prog 21 #[.pointer (some ⟨g, 0, none⟩)] w fun e w' => e = .returned (.int .i64 (8 * (xs.length : Int) - p)) ∧ Same w w' :=
  (left_q g A c xs p w hw hL hp).mono fun _ _ ⟨he, m, hm⟩ => ⟨he, by rw [hm]; exact (Fr.refl _ _).drewN _⟩

set_option maxHeartbeats 400000 in
theorem new_any (A : Option Addr) (c : Nat) (xs : List Int) (w : World) (hr : Reads w .u8 A xs.length xs) :
    Calls Try.prog 15 #[.slice A xs.length c] w fun e w' => e = .returned (.pointer (some ⟨w.heap.size, 0, none⟩)) ∧ IsR w' w.heap.size A c xs 0 ∧ Same w w' := by
  have HR := Lib.hid hr; clear hr
  go_enter Try.func15, Try.ntmps15
  go_wp2
  go_ret
  have f : Same w (w.alloc (.cells #[.slice A xs.length c, .int .i64 0] 52)) := (Fr.refl _ _).alloc _
  exact ⟨rfl, ⟨blk_new _ _, HR.out.fr f (fun _ _ _ h => h), fun hn b hb => by have := HR.out.lt hn hb; omega⟩, f⟩
end Go.Proofs.Ytghahbododnafaa
