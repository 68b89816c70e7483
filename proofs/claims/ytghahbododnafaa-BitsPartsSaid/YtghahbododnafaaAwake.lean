/- The walk of awake: it returns true, and leaves all that was there as it was. -/
import Derived.Test.YtghahbododnafaaWhole
namespace Go.Proofs.Ytghahbododnafaa
open Go.RowKit
open Bt

/-- the row lies in a block from B on (or there is none) -/
def From (B : Nat) (v : Value) : Prop := ∀ j, v.ownBlock = some j → B ≤ j
theorem From.none (B n c : Nat) : From B (.slice none n c) := fun j hj => by simp [Value.ownBlock] at hj
theorem Fresh.fromB {w : World} {v : Value} {B : Nat} (h : Fresh w v) (hB : B ≤ w.heap.size) : From B v := fun j hj => Nat.le_trans hB (h j hj)
theorem WTurn.below {w0 w : World} {g B : Nat} {v0 v : Value} (h : WTurn w0 w g v0 v) (hB : B ≤ w0.heap.size) (hg : B ≤ g) (hv : From B v0) : Below B w0 w ∧ From B v := by
  refine ⟨h.fr.below B hB (fun k hk e => ?_), fun j hj => ?_⟩
  · rcases e with e | e
    · omega
    · have := hv k e.symm; omega
  · rcases h.row with e | ⟨b, e, hb⟩
    · exact hv j (by rw [← e]; exact hj)
    · rw [e] at hj; injection hj with hj; omega
theorem Fr.belowEq {w0 w : World} {g B : Nat} (h : Fr (fun j => j = g) w0 w) (hB : B ≤ w0.heap.size) (hg : B ≤ g) : Below B w0 w := h.below B hB (fun k hk e => by omega)
theorem Fr.belowSame {w0 w : World} {B : Nat} (h : Same w0 w) (hB : B ≤ w0.heap.size) : Below B w0 w := h.below B hB (fun _ _ e => e)

theorem put_ok (g : Nat) (v0 : Value) (L : List Bool) (num bits : Int) (w : World) (h0 : 0 ≤ num) (h : Good num bits) (hw : IsW w g v0 L) (hL : L.length ≤ 1000000) :
    Calls Try.prog 10 #[.pointer (some ⟨g, 0, none⟩), .int .u64 num, .int .i64 bits] w fun e w' => e = .returned (.int .i64 0) ∧ ∃ v, IsW w' g v (L ++ bitsOf num.toNat bits.toNat) ∧ WTurn w w' g v0 v :=
  put_good g v0 L num bits w h.1 h.2.1 (div_pow_ne h0 h.2.2) h0 h.2.2 hw hL

theorem isW_new (w : World) : IsW (w.alloc (.cells #[.slice none 0 0, .int .u64 0, .int .i64 0] 28)) w.heap.size (.slice none 0 0) [] :=
  ⟨blk_new _ _, World.ownsRow_nil _ _ _ _, Nat.le_refl _⟩
theorem isB_new (w : World) : IsB (w.alloc (.cells #[.slice none 0 0, .int .i64 0] 32)) w.heap.size (.slice none 0 0) [] 0 :=
  ⟨blk_new _ _, World.ownsRow_nil _ _ _ _⟩

def aw : List Bool := [true, false, true, true, true, true, false, false, false, false]
theorem aw_pad : pad aw = [61, 0] := by decide

set_option maxHeartbeats 2000000 in
theorem awake_any (w : World) : Calls Try.prog 9 #[] w fun e w' => e = .returned (.bool true) ∧ Below w.heap.size w w' := by
  have b0 : Below w.heap.size w (w.alloc (.cells #[.slice none 0 0, .int .u64 0, .int .i64 0] 28)) := (Below.refl _ _).alloc (Nat.le_refl _) _
  have h0 := Lib.hid (isW_new w)
  have B0 := Lib.hid b0; clear b0
  go_enter Try.func9, Try.ntmps9
  go_wp2_with fail
  refine (put_ok w.heap.size (.slice none 0 0) [] 5 3 _ (by decide) ⟨by decide, by decide, by decide⟩ h0.out (by decide)).mono ?_
  rintro e w1 ⟨rfl, v1, h1, t1⟩
  have T1 := Lib.hid (t1.below (B := w.heap.size) B0.out.size (Nat.le_refl _) (From.none _ _ _)); clear t1
  have B1 := Lib.hid (B0.out.trans T1.out.1)
  have H1 := Lib.hid h1; clear h1
  go_wp2_with fail
  refine (put_ok w.heap.size v1 _ 1 1 _ (by decide) ⟨by decide, by decide, by decide⟩ H1.out (by decide)).mono ?_
  rintro e w2 ⟨rfl, v2, h2, t2⟩
  have T2 := Lib.hid (t2.below (B := w.heap.size) B1.out.size (Nat.le_refl _) T1.out.2); clear t2
  have B2 := Lib.hid (B1.out.trans T2.out.1)
  have H2 := Lib.hid h2; clear h2
  go_wp2_with fail
  refine (put_ok w.heap.size v2 _ 3 6 _ (by decide) ⟨by decide, by decide, by decide⟩ H2.out (by decide)).mono ?_
  rintro e w3 ⟨rfl, v3, h3, t3⟩
  have T3 := Lib.hid (t3.below (B := w.heap.size) B2.out.size (Nat.le_refl _) T2.out.2); clear t3
  have B3 := Lib.hid (B2.out.trans T3.out.1)
  have H3 : Hid (IsW w3 w.heap.size v3 aw) := h3; clear h3
  go_wp2_with fail
  refine (put_bad w.heap.size 4 2 _ (fun h => absurd h.2.2 (by decide))).mono ?_
  rintro e w3' ⟨rfl, rfl⟩
  go_wp2_with fail
  refine (wbytes_any w.heap.size v3 aw _ H3.out (by decide)).mono ?_
  rintro e w4 ⟨vb, rfl, hb, hs, hf⟩
  have B4 := Lib.hid (B3.out.trans (hs.belowSame B3.out.size))
  have H4 := Lib.hid (H3.out.same hs); clear hs hf
  rw [aw_pad] at hb
  have hb2 : w4.ownsRow 0 5 1 vb 2 ([61, 0].map (Value.int .u8)) := hb
  obtain ⟨b, c, rfl, hc⟩ := own_cells hb2 (by decide)
  have c0 : w4.cell? ⟨b, 0, none⟩ = some (.int .u8 61) := hc 0 _ rfl
  have c1 : w4.cell? ⟨b, 1, none⟩ = some (.int .u8 0) := hc 1 _ rfl
  have hr : Reads w4 .u8 (some ⟨b, 0, none⟩) [61, 0].length [61, 0] := ⟨rfl, by decide, fun _ => ⟨b, 0, rfl, fun j hj => by
    have : j = 0 ∨ j = 1 := by simp at hj; omega
    rcases this with rfl | rfl
    · exact c0
    · exact c1⟩⟩
  have HR := Lib.hid hr; clear hr hc hb hb2 c0 c1
  go_wp2_with fail
  refine (new_any _ c [61, 0] _ HR.out).mono ?_
  rintro e w5 ⟨rfl, hr, hs⟩
  have B5 := Lib.hid (B4.out.trans (hs.belowSame B4.out.size))
  have H5 := Lib.hid (H4.out.same hs); clear hs
  have HR5 := Lib.hid hr; clear hr
  have hg : w.heap.size ≤ w4.heap.size := B4.out.size
  have hgw : w.heap.size ≠ w4.heap.size := by have := blk_lt H4.out.blk; omega
  have hv3 : ∀ j, v3.ownBlock = some j → j ≠ w4.heap.size := fun j hj => by have := own_lt H4.out.own hj; omega
  generalize w4.heap.size = g at *
  go_wp2_with fail
  refine (take_good g _ c [61, 0] 0 3 _ HR5.out (by decide) (by decide) (by decide) (by decide) (by decide) (by decide)).mono ?_
  rintro e w6 ⟨he, hr, hf⟩
  obtain rfl : e = .returned (.tuple #[.int .u64 5, .int .i64 0]) := he
  have B6 := Lib.hid (B5.out.trans (hf.belowEq B5.out.size hg))
  have H6 := Lib.hid (H5.out.fr hf (fun e => hgw (e ▸ rfl)) (fun j hj e => hv3 j hj e))
  have HR6 := Lib.hid hr; clear hr hf
  go_wp2_with fail
  refine (take_good g _ c [61, 0] 3 1 _ HR6.out (by decide) (by decide) (by decide) (by decide) (by decide) (by decide)).mono ?_
  rintro e w7 ⟨he, hr, hf⟩
  obtain rfl : e = .returned (.tuple #[.int .u64 1, .int .i64 0]) := he
  have B7 := Lib.hid (B6.out.trans (hf.belowEq B6.out.size hg))
  have H7 := Lib.hid (H6.out.fr hf (fun e => hgw (e ▸ rfl)) (fun j hj e => hv3 j hj e))
  have HR7 := Lib.hid hr; clear hr hf
  go_wp2_with fail
  refine (whole_any g _ c [61, 0] 4 _ HR7.out (by decide) (by decide) (by decide)).mono ?_
  rintro e w8 ⟨he, hr, hf⟩
  obtain rfl : e = .returned (.bool false) := he
  have B8 := Lib.hid (B7.out.trans (hf.belowEq B7.out.size hg))
  have H8 := Lib.hid (H7.out.fr hf (fun e => hgw (e ▸ rfl)) (fun j hj e => hv3 j hj e))
  have HR8 := Lib.hid hr; clear hr hf
  go_wp2_with fail
  refine (count_any w.heap.size v3 aw _ H8.out (by decide)).mono ?_
  rintro e w9 ⟨he, hs⟩
  obtain rfl : e = .returned (.int .i64 10) := he
  have B9 := Lib.hid (B8.out.trans (hs.belowSame B8.out.size))
  have hr9 := HR8.out.same hs; clear hs
  obtain ⟨b', o', e', hc'⟩ := hr9.reads.2.2 (by decide)
  injection e' with e'
  injection e' with e1 e2
  subst e1; subst e2
  have c0 : w9.cell? ⟨b, 0, none⟩ = some (.int .u8 61) := hc' 0 (by decide)
  have c1 : w9.cell? ⟨b, 1, none⟩ = some (.int .u8 0) := hc' 1 (by decide)
  have HR9 := Lib.hid hr9; clear hr9 hc'
  go_wp2_with fail
  refine (left_any g _ c [61, 0] 8 _ HR9.out (by decide) (by decide)).mono ?_
  rintro e w10 ⟨he, hs⟩
  obtain rfl : e = .returned (.int .i64 8) := he
  have B10 := Lib.hid (B9.out.trans (hs.belowSame B9.out.size)); clear hs
  go_wp2
  go_ret
  exact ⟨rfl, B10.out⟩
end Go.Proofs.Ytghahbododnafaa
