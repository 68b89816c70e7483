/- The walk of BucketSame. -/
import Derived.Test.YtobepippjhmeaaaDoorBkHelp
namespace Go.Proofs.YtobepippjhmeaaaDoor
open Go.RowKit
open Bk

set_option maxRecDepth 20000 in
set_option maxHeartbeats 2000000 in
theorem bucketSame_walk (w : World) (A : Option Addr) (c : Nat) (zs : List Int) (hrz : Reads w .u8 A zs.length zs ∧ zs.length ≤ c) (_ : ∀ x ∈ zs, 0 ≤ x ∧ x ≤ 255)
    (A2 : Option Addr) (c2 : Nat) (ys : List Int) (hry : Reads w .u8 A2 ys.length ys ∧ ys.length ≤ c2) (_ : ∀ x ∈ ys, 0 ≤ x ∧ x ≤ 255) :
    Calls Tryd.prog 7 #[.slice A zs.length c, .slice A2 ys.length c2] w fun e w' => e = .returned (.bool true) ∧ Below w.heap.size w w' := by
  have R1 := Lib.hid hrz.1
  have R2 := Lib.hid hry.1
  clear hrz hry
  have hl1 := R1.out.2.1
  have hl2 := R2.out.2.1
  have HL1 := Lib.hid hl1; have HL2 := Lib.hid hl2; clear hl1 hl2
  by_cases h : (5000 : Int) < zs.length ∨ (5000 : Int) < ys.length
  · by_cases h1 : (5000 : Int) < zs.length
    · clear h
      go_enter Tryd.func7, Tryd.ntmps7
      go_wp2_with (go_at_call 10; refine (awake_any w).mono ?_; rintro e w1 ⟨rfl, hb⟩; have HB := Lib.hid hb; clear hb)
      go_ret
      exact ⟨rfl, HB.out⟩
    · have h2 : (5000 : Int) < ys.length := by omega
      clear h
      go_enter Tryd.func7, Tryd.ntmps7
      go_wp2_with (go_at_call 10; refine (awake_any w).mono ?_; rintro e w1 ⟨rfl, hb⟩; have HB := Lib.hid hb; clear hb)
      go_ret
      exact ⟨rfl, HB.out⟩
  · have h1 : ¬ (5000 : Int) < zs.length := by omega
    have h2 : ¬ (5000 : Int) < ys.length := by omega
    clear h
    have P1 := Lib.hid (fun w hr => pad_n A c zs w hr (by omega))
    have P2 := Lib.hid (fun w hr => pad_n A2 c2 ys w hr (by omega))
    have S1 := Lib.hid (fun w => size_at ((zs.length : Int) + 1) (zs.length + 1) (by omega) (by omega) w)
    have S2 := Lib.hid (fun w => size_at ((ys.length : Int) + 1) (ys.length + 1) (by omega) (by omega) w)
    generalize size (zs.length + 1) = n1 at *
    generalize size (ys.length + 1) = n2 at *
    go_enter Tryd.func7, Tryd.ntmps7
    go_wp2_with fail
    refine (awake_any w).mono ?_
    rintro e w1 ⟨rfl, hb⟩
    have B1 := Lib.hid hb; clear hb
    go_wp2_with fail
    refine (P1.out w1 (R1.out.same B1.out)).mono ?_
    rintro e w2 ⟨A3, c3, rfl, _, _, hb⟩
    have B2 := Lib.hid (B1.out.trans (hb.mono B1.out.size)); clear hb
    go_wp2_with fail
    refine (P2.out w2 (R2.out.same B2.out)).mono ?_
    rintro e w3 ⟨A4, c4, rfl, _, _, hb⟩
    have B3 := Lib.hid (B2.out.trans (hb.mono B2.out.size)); clear hb
    go_wp2_with fail
    refine (S1.out w3).mono ?_
    rintro e w4 ⟨rfl, rfl⟩
    go_wp2_with fail
    refine (S2.out _).mono ?_
    rintro e w5 ⟨rfl, rfl⟩
    go_wp2
    go_ret
    exact ⟨ret_bool (by simp), B3.out⟩
end Go.Proofs.YtobepippjhmeaaaDoor
