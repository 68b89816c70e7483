/- The walk of FilesParts. -/
import Derived.Test.YtlgonkopojancaaDoorFxWNames
namespace Go.Proofs.YtlgonkopojancaaDoor
open Go.RowKit

theorem toL_app (a b : ByteArray) : (a ++ b).data.toList = a.data.toList ++ b.data.toList := by simp
theorem nameL_parts {l : List UInt8} (h : l.length ≤ 100) : nameL l = (l.all okB && !(parts l).any badL) := by
  unfold nameL
  rw [decide_eq_true h, Bool.true_and]
theorem name_join {a b : ByteArray} (ha : a.size ≤ 49) (hb : b.size ≤ 49) : nameB (a ++ ⟨#[47]⟩ ++ b) = (nameB a && nameB b) := by
  have la : a.data.toList.length = a.size := rfl
  have lb : b.data.toList.length = b.size := rfl
  have e : (a ++ ⟨#[47]⟩ ++ b).data.toList = a.data.toList ++ 47 :: b.data.toList := by rw [toL_app, toL_app]; simp
  rw [name_L, name_L, name_L, e, nameL_parts (by simp; omega), nameL_parts (by omega), nameL_parts (by omega), parts_split]
  simp only [List.all_append, List.all_cons, List.any_append]
  have h47 : okB 47 = true := by decide
  rw [h47]
  cases a.data.toList.all okB <;> cases b.data.toList.all okB <;> cases (parts a.data.toList).any badL <;> cases (parts b.data.toList).any badL <;> rfl
theorem name_two {a b : ByteArray} : nameB (a ++ ⟨#[47, 47]⟩ ++ b) = false := by
  have e : (a ++ ⟨#[47, 47]⟩ ++ b).data.toList = a.data.toList ++ 47 :: 47 :: b.data.toList := by rw [toL_app, toL_app]; simp
  rw [name_L, e]
  unfold nameL
  rw [parts_split, parts_bar]
  simp [badL]
theorem name_end {a : ByteArray} : nameB (a ++ ⟨#[47]⟩) = false := by
  have e : (a ++ ⟨#[47]⟩).data.toList = a.data.toList ++ 47 :: [] := by rw [toL_app]
  rw [name_L, e]
  unfold nameL
  rw [parts_split]
  simp [parts, badL]
theorem name_head {b : ByteArray} : nameB (⟨#[47]⟩ ++ b) = false := by
  have e : ((⟨#[47]⟩ : ByteArray) ++ b).data.toList = 47 :: b.data.toList := by rw [toL_app]; rfl
  rw [name_L, e]
  unfold nameL
  rw [parts_bar]
  simp [badL]
theorem size_m {a b c : ByteArray} (ha : a.size ≤ 49) (hb : b.size ≤ 49) (hc : c.size ≤ 2) : (a ++ c ++ b).size ≤ 9223372036854775807 := by
  rw [ByteArray.size_append, ByteArray.size_append]; omega
theorem size_p {a c : ByteArray} (ha : a.size ≤ 49) (hc : c.size ≤ 49) : (a ++ c).size ≤ 9223372036854775807 := by
  rw [ByteArray.size_append]; omega
theorem s1 : (⟨#[47]⟩ : ByteArray).size ≤ 2 := Nat.le_succ 1
theorem s2 : (⟨#[47, 47]⟩ : ByteArray).size ≤ 2 := Nat.le_refl 2
theorem s3 : (⟨#[47]⟩ : ByteArray).size ≤ 49 := Nat.le_trans s1 (by decide)
theorem and_ff (x : Bool) : (false && x) = false := rfl
theorem and_tf : (true && false) = false := rfl
theorem and_tt : (true && true) = true := rfl
/-- the one cell that all calls read -/
theorem keep0 {w w' : World} {m : Int} (hm : w.cell? ⟨0, 0, none⟩ = some (.int .i64 m)) (hb : Below w.heap.size w w') : w'.cell? ⟨0, 0, none⟩ = some (.int .i64 m) :=
  (hb.cell (p := ⟨0, 0, none⟩) (World.block_lt_of_cell? w _ hm)).trans hm
/-- Name with its answer told; the world grows from h on -/
theorem name_told (s : ByteArray) (B : Bool) (hB : nameB s = B) (m : Int) (w0 w : World) (hm : w.cell? ⟨0, 0, none⟩ = some (.int .i64 m)) (hs : s.size ≤ 9223372036854775807) (h0 : Below w0.heap.size w0 w) :
    Calls Tryd.prog 25 #[.string s] w fun e w' => e = .returned (.bool B) ∧ Below w0.heap.size w0 w' ∧ w'.cell? ⟨0, 0, none⟩ = some (.int .i64 m) := by
  subst hB
  refine (name_any s m w hm hs).mono ?_
  rintro e w' ⟨rfl, hb⟩
  exact ⟨rfl, h0.trans (hb.mono h0.size), keep0 hm hb⟩

set_option maxRecDepth 20000 in
set_option maxHeartbeats 2000000 in
theorem filesParts_walk (w : World) (m : Int) (hm : w.cell? ⟨0, 0, none⟩ = some (.int .i64 m)) (a : ByteArray) (_ : a.size ≤ maxLen) (b : ByteArray) (_ : b.size ≤ maxLen) :
    Calls Tryd.prog 10 #[.string a, .string b] w fun e w' => e = .returned (.bool true) ∧ Below w.heap.size w w' := by
  have HA := Lib.hid (awake_any m w hm)
  have HM := Lib.hid hm
  rename_i wa wb
  unfold maxLen at wa wb
  have hwa : a.size ≤ 9223372036854775807 := wa
  have hwb : b.size ≤ 9223372036854775807 := wb
  clear hm wa wb
  by_cases ha : (49 : Int) < a.size
  · go_enter Tryd.func10, Tryd.ntmps10
    go_wp2_with (go_at_call 11; refine HA.out.mono ?_; rintro e w1 ⟨rfl, hb⟩; have HB := Lib.hid hb; clear hb)
    go_ret
    exact ⟨rfl, HB.out⟩
  · by_cases hb : (49 : Int) < b.size
    · go_enter Tryd.func10, Tryd.ntmps10
      go_wp2_with (go_at_call 11; refine HA.out.mono ?_; rintro e w1 ⟨rfl, hb⟩; have HB := Lib.hid hb; clear hb)
      go_ret
      exact ⟨rfl, HB.out⟩
    · have hj := name_join (a := a) (b := b) (by omega) (by omega)
      have la : a.size ≤ 49 := by omega
      have lb : b.size ≤ 49 := by omega
      have HL := Lib.hid (And.intro la lb)
      have HJ := Lib.hid hj
      clear hj la lb
      go_enter Tryd.func10, Tryd.ntmps10
      go_wp2_with fail
      refine HA.out.mono ?_
      rintro e w1 ⟨rfl, hb1⟩
      have M1 := Lib.hid (keep0 HM.out hb1); have B1 := Lib.hid hb1
      clear hb1
      go_wp2_with fail
      rcases hna : nameB a with _ | _
      · have HNA := Lib.hid hna; clear hna
        with_reducible refine (name_told (a ++ ⟨#[47]⟩ ++ b) false (HJ.out.trans (by rw [HNA.out]; exact and_ff _)) m w _ M1.out (size_m HL.out.1 HL.out.2 s1) B1.out).mono ?_
        rintro e w2 ⟨rfl, hb, hm⟩
        have M2 := Lib.hid hm; have B2 := Lib.hid hb
        clear hb hm
        go_wp2_with fail
        with_reducible refine (name_told (a) false (HNA.out) m w _ M2.out (by have := HL.out; omega) B2.out).mono ?_
        rintro e w3 ⟨rfl, hb, hm⟩
        have M3 := Lib.hid hm; have B3 := Lib.hid hb
        clear hb hm
        go_wp2_with fail
        with_reducible refine (name_told (a ++ ⟨#[47, 47]⟩ ++ b) false (name_two) m w _ M3.out (size_m HL.out.1 HL.out.2 s2) B3.out).mono ?_
        rintro e w4 ⟨rfl, hb, hm⟩
        have M4 := Lib.hid hm; have B4 := Lib.hid hb
        clear hb hm
        go_wp2_with fail
        with_reducible refine (name_told (a ++ ⟨#[47]⟩) false (name_end) m w _ M4.out (size_p HL.out.1 s3) B4.out).mono ?_
        rintro e w5 ⟨rfl, hb, hm⟩
        have M5 := Lib.hid hm; have B5 := Lib.hid hb
        clear hb hm
        go_wp2_with fail
        with_reducible refine (name_told (⟨#[47]⟩ ++ b) false (name_head) m w _ M5.out (size_p s3 HL.out.2) B5.out).mono ?_
        rintro e w6 ⟨rfl, hb, hm⟩
        have M6 := Lib.hid hm; have B6 := Lib.hid hb
        clear hb hm
        go_wp2_with fail
        go_ret
        exact ⟨rfl, B6.out⟩
      · have HNA := Lib.hid hna; clear hna
        rcases hnb : nameB b with _ | _
        · have HNB := Lib.hid hnb; clear hnb
          with_reducible refine (name_told (a ++ ⟨#[47]⟩ ++ b) false (HJ.out.trans (by rw [HNA.out, HNB.out]; exact and_tf)) m w _ M1.out (size_m HL.out.1 HL.out.2 s1) B1.out).mono ?_
          rintro e w2 ⟨rfl, hb, hm⟩
          have M2 := Lib.hid hm; have B2 := Lib.hid hb
          clear hb hm
          go_wp2_with fail
          with_reducible refine (name_told (a) true (HNA.out) m w _ M2.out (by have := HL.out; omega) B2.out).mono ?_
          rintro e w3 ⟨rfl, hb, hm⟩
          have M3 := Lib.hid hm; have B3 := Lib.hid hb
          clear hb hm
          go_wp2_with fail
          with_reducible refine (name_told (b) false (HNB.out) m w _ M3.out (by have := HL.out; omega) B3.out).mono ?_
          rintro e w4 ⟨rfl, hb, hm⟩
          have M4 := Lib.hid hm; have B4 := Lib.hid hb
          clear hb hm
          go_wp2_with fail
          with_reducible refine (name_told (a ++ ⟨#[47, 47]⟩ ++ b) false (name_two) m w _ M4.out (size_m HL.out.1 HL.out.2 s2) B4.out).mono ?_
          rintro e w5 ⟨rfl, hb, hm⟩
          have M5 := Lib.hid hm; have B5 := Lib.hid hb
          clear hb hm
          go_wp2_with fail
          with_reducible refine (name_told (a ++ ⟨#[47]⟩) false (name_end) m w _ M5.out (size_p HL.out.1 s3) B5.out).mono ?_
          rintro e w6 ⟨rfl, hb, hm⟩
          have M6 := Lib.hid hm; have B6 := Lib.hid hb
          clear hb hm
          go_wp2_with fail
          with_reducible refine (name_told (⟨#[47]⟩ ++ b) false (name_head) m w _ M6.out (size_p s3 HL.out.2) B6.out).mono ?_
          rintro e w7 ⟨rfl, hb, hm⟩
          have M7 := Lib.hid hm; have B7 := Lib.hid hb
          clear hb hm
          go_wp2_with fail
          go_ret
          exact ⟨rfl, B7.out⟩
        · have HNB := Lib.hid hnb; clear hnb
          with_reducible refine (name_told (a ++ ⟨#[47]⟩ ++ b) true (HJ.out.trans (by rw [HNA.out, HNB.out]; exact and_tt)) m w _ M1.out (size_m HL.out.1 HL.out.2 s1) B1.out).mono ?_
          rintro e w2 ⟨rfl, hb, hm⟩
          have M2 := Lib.hid hm; have B2 := Lib.hid hb
          clear hb hm
          go_wp2_with fail
          with_reducible refine (name_told (a) true (HNA.out) m w _ M2.out (by have := HL.out; omega) B2.out).mono ?_
          rintro e w3 ⟨rfl, hb, hm⟩
          have M3 := Lib.hid hm; have B3 := Lib.hid hb
          clear hb hm
          go_wp2_with fail
          with_reducible refine (name_told (b) true (HNB.out) m w _ M3.out (by have := HL.out; omega) B3.out).mono ?_
          rintro e w4 ⟨rfl, hb, hm⟩
          have M4 := Lib.hid hm; have B4 := Lib.hid hb
          clear hb hm
          go_wp2_with fail
          with_reducible refine (name_told (a ++ ⟨#[47, 47]⟩ ++ b) false (name_two) m w _ M4.out (size_m HL.out.1 HL.out.2 s2) B4.out).mono ?_
          rintro e w5 ⟨rfl, hb, hm⟩
          have M5 := Lib.hid hm; have B5 := Lib.hid hb
          clear hb hm
          go_wp2_with fail
          with_reducible refine (name_told (a ++ ⟨#[47]⟩) false (name_end) m w _ M5.out (size_p HL.out.1 s3) B5.out).mono ?_
          rintro e w6 ⟨rfl, hb, hm⟩
          have M6 := Lib.hid hm; have B6 := Lib.hid hb
          clear hb hm
          go_wp2_with fail
          with_reducible refine (name_told (⟨#[47]⟩ ++ b) false (name_head) m w _ M6.out (size_p s3 HL.out.2) B6.out).mono ?_
          rintro e w7 ⟨rfl, hb, hm⟩
          have M7 := Lib.hid hm; have B7 := Lib.hid hb
          clear hb hm
          go_wp2_with fail
          go_ret
          exact ⟨rfl, B7.out⟩
end Go.Proofs.YtlgonkopojancaaDoor
