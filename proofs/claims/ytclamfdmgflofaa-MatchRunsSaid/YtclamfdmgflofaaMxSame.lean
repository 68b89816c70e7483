/- The walk of the reference's Same. -/
import Derived.Test.YtclamfdmgflofaaMxRExpand
namespace Go.Proofs.Ytclamfdmgflofaa
open Go.RowKit
open Mx

/-- are two tokens one? -/
def TokEq (x y z x' y' z' : Int) : Bool := x == x' && (y == y' && z == z')
theorem eq33 (x y z x' y' z' : Int) (w : World) : (Op.equalIn 10000 33 (.agg #[.int .u8 x, .int .i64 y, .int .i64 z]) (.agg #[.int .u8 x', .int .i64 y', .int .i64 z'])).run Try.prog w = .ok (TokEq x y z x' y' z') w := by
  have u3 := Try.underlying3
  have u5 := Try.underlying5
  have hS : Try.prog.underlying 33 = some (.struct (Try.prog.fieldsOf 33)) := by kernel_rfl
  have hp : Try.prog.stoodInHeld 33 = false := by kernel_rfl
  rw [show (10000 : Nat) = 9999 + 1 from rfl, run_equalIn_agg w 9999 33 _ _ hS hp]
  simp only [Program.fieldsOf, Try.underlying33]
  go_simp
  by_cases h1 : x = x' <;> by_cases h2 : y = y' <;> by_cases h3 : z = z' <;> simp [h1, h2, h3, TokEq]
theorem guard33 (op : BinOp) (x y : Operand) (xs ys : Array Value) (w : World) : (eqGuard op 33 x y (.agg xs) (.agg ys)).run Try.prog w = .ok () w := run_eqGuard_agg w op 33 x y xs ys (by kernel_rfl)
theorem tokEq_iff (t u : Tok) : TokEq t.1 t.2.1 t.2.2 u.1 u.2.1 u.2.2 = decide (t = u) := by
  obtain ⟨x, y, z⟩ := t
  obtain ⟨x', y', z'⟩ := u
  by_cases h1 : x = x' <;> by_cases h2 : y = y' <;> by_cases h3 : z = z' <;> simp [h1, h2, h3, TokEq]
theorem ret_bool {a b : Bool} (h : a = b) : Ending.returned (.bool a) = .returned (.bool b) := by rw [h]
theorem getD_of_eq {ts us : List Tok} (h : ts = us) (k : Nat) : ts.getD k (0, 0, 0) = us.getD k (0, 0, 0) := by rw [h]
theorem take_more {ts us : List Tok} {k : Nat} (h : ts.take k = us.take k) (h1 : k < ts.length) (h2 : k < us.length) (he : ts.getD k (0, 0, 0) = us.getD k (0, 0, 0)) : ts.take (k + 1) = us.take (k + 1) := by
  rw [List.take_succ_eq_append_getElem h1, List.take_succ_eq_append_getElem h2, h]
  rw [List.getD_eq_getElem?_getD, List.getD_eq_getElem?_getD, List.getElem?_eq_getElem h1, List.getElem?_eq_getElem h2] at he
  simp at he
  rw [he]

set_option maxRecDepth 20000 in
set_option maxHeartbeats 2000000 in
theorem same_any (A : Option Addr) (c : Nat) (ts : List Tok) (n : Nat) (B : Option Addr) (d : Nat) (us : List Tok) (w : World) (ht : ReadsT w A n ts) (hu : ReadsT w B n us) (hn : n ≤ 20000) :
    Calls Try.prog 11 #[.slice A n c, .slice B n d] w fun e w' => e = .returned (.bool (decide (ts = us))) ∧ Same w w' := by
  have HT := Lib.hid ht; have HU := Lib.hid hu; clear ht hu
  have hnI : (n : Int) ≤ 20000 := by omega
  have HN := Lib.hid hn; clear hn
  have e33 := eq33
  have g33 := guard33
  go_enter Try.func11, Try.ntmps11
  go_wp2
  go_loopw [5] (fun v5 wr => ∃ k : Nat, v5 = .int .i64 k ∧ Hid (k ≤ n) ∧ Hid (ts.take k = us.take k) ∧ Hid (Same w wr)) (fun v5 _ => n - (intOf v5).toNat)
  case atStart => exact ⟨0, rfl, Nat.zero_le _, rfl, Fr.refl _ _⟩
  case round =>
    obtain ⟨k, rfl, HK, HE, HS⟩ := hrel
    by_cases hk : (k : Int) < n
    · have T2 := (HT.out.same (below_fr HS.out)).2 (by omega)
      have U2 := (HU.out.same (below_fr HS.out)).2 (by omega)
      obtain ⟨b, o, rfl, hc⟩ := T2
      obtain ⟨b', o', rfl, hc'⟩ := U2
      obtain ⟨c0, c1, c2⟩ := hc k (by omega)
      obtain ⟨d0, d1, d2⟩ := hc' k (by omega)
      clear hc hc'
      have HTE := Lib.hid (tokEq_iff (ts.getD k (0, 0, 0)) (us.getD k (0, 0, 0)))
      have HNE := Lib.hid (fun h : ts = us => getD_of_eq h k)
      have HTM := Lib.hid (take_more HE.out (by have := HT.out.1; omega) (by have := HU.out.1; omega))
      generalize ts.getD k (0, 0, 0) = t at *
      generalize us.getD k (0, 0, 0) = u at *
      obtain ⟨x, y, z⟩ := t
      obtain ⟨x', y', z'⟩ := u
      simp only at c0 c1 c2 d0 d1 d2
      by_cases htu : ((x, y, z) : Tok) = (x', y', z')
      · have hb : TokEq x y z x' y' z' = true := by have := HTE.out; simp only at this; rw [this]; simpa using htu
        have HM := Lib.hid (HTM.out htu)
        clear htu
        go_wp2
        go_quiet (fail)
        go_wp2
        go_roundw
        case rel => exact ⟨k + 1, by go_num, (by omega : k + 1 ≤ n), HM.out, HS.out.drewN _⟩
        case measure => simp [intOf]; omega
      · have hb : TokEq x y z x' y' z' = false := by have := HTE.out; simp only at this; rw [this]; simpa using htu
        have HM : Hid (decide (ts = us) = false) := (decide_eq_false (fun h => htu (HNE.out h)) : decide (ts = us) = false)
        clear htu
        go_wp2
        go_quiet (fail)
        go_wp2
        go_ret
        exact ⟨ret_bool HM.out.symm, HS.out.drewN _⟩
    · have hkn : k = n := by have := HK.out; omega
      have HM : Hid (decide (ts = us) = true) := (decide_eq_true (by
        have := HE.out
        rw [hkn, List.take_of_length_le (by rw [HT.out.1]; omega), List.take_of_length_le (by rw [HU.out.1]; omega)] at this
        exact this) : decide (ts = us) = true)
      clear hkn
      go_wp2
      go_ret
      exact ⟨ret_bool HM.out.symm, HS.out⟩
end Go.Proofs.Ytclamfdmgflofaa
