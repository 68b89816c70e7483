/- The walk of BucketNext. -/
import Derived.Test.YtobepippjhmeaaaDoorBkHelp
namespace Go.Proofs.YtobepippjhmeaaaDoor
open Go.RowKit
open Bk

set_option maxRecDepth 20000 in
set_option maxHeartbeats 2000000 in
theorem bucketNext_walk (w : World) (n : Int) (_ : -9223372036854775808 ≤ n ∧ n ≤ 9223372036854775807) :
    Calls Tryd.prog 8 #[.int .i64 n] w fun e w' => e = .returned (.bool true) ∧ Below w.heap.size w w' := by
  by_cases h : 0 ≤ n ∧ n ≤ 4194304
  · obtain ⟨N, rfl⟩ := Int.eq_ofNat_of_zero_le h.1
    have hN : N ≤ 4194304 := by omega
    clear h
    have S1 := Lib.hid (fun w => size_good N w hN)
    have f1 := size_next N hN
    have f2 := size_le N hN
    have f3 := size_dvd N hN
    have f4 := size_1024 N hN
    generalize size N = s at *
    by_cases hs : s = 4194304
    · have hs' : (s : Int) = 4194304 := by omega
      rw [hs'] at S1
      clear f1 f2 f3 f4 hs hs' hN
      go_enter Tryd.func8, Tryd.ntmps8
      go_wp2_with fail
      refine (awake_any w).mono ?_
      rintro e w1 ⟨rfl, hb⟩
      have B1 := Lib.hid hb; clear hb
      go_wp2_with fail
      refine (S1.out _).mono ?_
      rintro e w2 ⟨rfl, rfl⟩
      go_wp2
      go_ret
      exact ⟨rfl, B1.out⟩
    · have hs1 : s + 1 ≤ 4194304 := by omega
      have g1 := f1 hs
      have g2 := size_ge (s + 1) hs1
      have g3 := size_dvd (s + 1) hs1
      have g4 := size_le (s + 1) hs1
      have g5 : size (size (s + 1) - 1) = size (s + 1) := size_mid (s + 1) (size (s + 1) - 1) hs1 (by omega) (by omega)
      have S2 := Lib.hid (fun w => size_at ((s : Int) + 1) (s + 1) (by omega) hs1 w)
      have S3 := Lib.hid (fun w => size_at ((size (s + 1) : Int) - 1) (size (s + 1) - 1) (by omega) (by omega) w)
      rw [g5] at S3
      clear g5
      generalize size (s + 1) = b at *
      have h1 : ¬ (s : Int) = 4194304 := by omega
      have h2 : (s : Int) < b := by omega
      have h3 : (b : Int) ≤ s + s / 4 := by omega
      have h4 : (s : Int) ≤ 100000000 := by omega
      have h5 : (b : Int) ≤ 100000000 := by omega
      clear f1 f2 f3 f4 hs hs1 g1 g2 g3 g4 hN
      go_enter Tryd.func8, Tryd.ntmps8
      go_wp2_with fail
      refine (awake_any w).mono ?_
      rintro e w1 ⟨rfl, hb⟩
      have B1 := Lib.hid hb; clear hb
      go_wp2_with fail
      refine (S1.out _).mono ?_
      rintro e w2 ⟨rfl, rfl⟩
      go_wp2_with fail
      refine (S2.out _).mono ?_
      rintro e w3 ⟨rfl, rfl⟩
      go_wp2_with fail
      refine (S3.out _).mono ?_
      rintro e w4 ⟨rfl, rfl⟩
      go_wp2
      go_ret
      exact ⟨rfl, B1.out⟩
  · have S1 := Lib.hid (fun w => size_bad n w h)
    by_cases h1 : n < 0
    · clear h
      go_enter Tryd.func8, Tryd.ntmps8
      go_wp2_with fail
      refine (awake_any w).mono ?_
      rintro e w1 ⟨rfl, hb⟩
      have B1 := Lib.hid hb; clear hb
      go_wp2_with fail
      refine (S1.out _).mono ?_
      rintro e w2 ⟨rfl, rfl⟩
      go_wp2
      go_ret
      exact ⟨rfl, B1.out⟩
    · have h2 : 4194304 < n := by omega
      clear h
      go_enter Tryd.func8, Tryd.ntmps8
      go_wp2_with fail
      refine (awake_any w).mono ?_
      rintro e w1 ⟨rfl, hb⟩
      have B1 := Lib.hid hb; clear hb
      go_wp2_with fail
      refine (S1.out _).mono ?_
      rintro e w2 ⟨rfl, rfl⟩
      go_wp2
      go_ret
      exact ⟨rfl, B1.out⟩
end Go.Proofs.YtobepippjhmeaaaDoor
