/- The walks of the reference's long and Best. -/
import Derived.Test.YtclamfdmgflofaaMxLong
namespace Go.Proofs.Ytclamfdmgflofaa
open Go.RowKit
open Mx

set_option maxRecDepth 20000 in
set_option maxHeartbeats 2000000 in
theorem rlong_any (A : Option Addr) (c : Nat) (b : List Int) (i f n : Nat) (w : World) (hn : b.length = n) (hr : Reads w .u8 A n b) (hl : n ≤ 100000) (hi : i ≤ n) (hf : f ≤ i) (hf1 : 1 ≤ f) :
    Calls Try.prog 23 #[.slice A n c, .int .i64 i, .int .i64 f] w fun e w' => e = .returned (.int .i64 (lng b i (i - f))) ∧ Same w w' := by
  have HR := Lib.hid hr; clear hr
  have HN := Lib.hid hn; clear hn
  obtain ⟨j, hj⟩ : ∃ j, i - f = j := ⟨_, rfl⟩
  rw [hj]
  have HIJ := Lib.hid (show i = j + f by omega)
  clear hj hf
  go_enter Try.func23, Try.ntmps23
  go_wp2
  go_loopw [7] (fun v wr => ∃ k : Nat, v = .int .i64 k ∧ k ≤ 258 ∧ Hid (lng b i j = lngUp b i j (258 - k) k) ∧ Same w wr) (fun v _ => 258 - (intOf v).toNat)
  case atStart => exact ⟨0, rfl, by omega, (rfl : lng b i j = lngUp b i j (258 - 0) 0), Fr.refl _ _⟩
  case round =>
    obtain ⟨k, rfl, hk, HK, hS⟩ := hrel
    have HRR := Lib.hid (HR.out.fr hS (fun _ _ _ h => h))
    have HS := Lib.hid hS; clear hS
    have hwr : IntKind.i64.wrap ((i : Int) + (k : Int)) = (i : Int) + k := by rw [IntKind.wrap_i64]; omega
    have he : (i : Int) + (k : Int) - (f : Int) = ((j + k : Nat) : Int) := by have := HIJ.out; omega
    by_cases h258 : (k : Int) < 258
    · by_cases hin : (i : Int) + k < n
      · obtain ⟨p, o, rfl, hc⟩ := HRR.out.2.2 (by omega)
        have ci := hc (i + k) (by omega)
        have cj := hc (j + k) (by have := HIJ.out; omega)
        have hjk : j + k < n := by have := HIJ.out; omega
        clear hc
        by_cases heq : b.getD (i + k) 0 = b.getD (j + k) 0
        · have HM := Lib.hid (lngUp_more b i j k (by omega) (by rw [HN.out]; omega) heq)
          rw [heq] at ci
          generalize b.getD (j + k) 0 = x at *
          clear heq
          go_wp2
          go_quiet (fail)
          go_wp2
          go_roundw
          case rel => exact ⟨k + 1, by go_num, by omega, (HK.out.trans HM.out : lng b i j = lngUp b i j (258 - (k + 1)) (k + 1)), HS.out.drewN _⟩
          case measure => simp [intOf]; omega
        · have HM := Lib.hid (lngUp_stop b i j k (fun h => heq h.2))
          have heb : (b.getD (i + k) 0 == b.getD (j + k) 0) = false := by rw [beq_eq_false_iff_ne]; exact heq
          generalize b.getD (j + k) 0 = x at *
          generalize b.getD (i + k) 0 = y at *
          clear heq
          go_wp2
          go_quiet (fail)
          go_wp2
          go_ret
          exact ⟨ret_i64 (by rw [HK.out, HM.out]), HS.out.drewN _⟩
      · have hd : decide ((i : Int) + (k : Int) < (n : Int)) = false := decide_eq_false hin
        have HM := Lib.hid (lngUp_stop b i j k (fun h => hin (by have := h.1; rw [HN.out] at this; omega)))
        go_wp2
        go_quiet (fail)
        go_wp2
        go_ret
        exact ⟨ret_i64 (by rw [HK.out, HM.out]), HS.out.drewN _⟩
    · have hk' : k = 258 := by omega
      have HM := Lib.hid (show lngUp b i j (258 - k) k = k by rw [hk']; rfl)
      clear hk'
      have hd : decide ((k : Int) < 258) = false := decide_eq_false h258
      go_wp2
      go_quiet (fail)
      go_wp2
      go_ret
      exact ⟨ret_i64 (by rw [HK.out, HM.out]), HS.out.drewN _⟩

theorem bestUp_le (b : List Int) (i : Nat) : ∀ k, (bestUp b i k).1 ≤ 258 ∧ (bestUp b i k).2 ≤ k
  | 0 => by simp [bestUp]
  | k + 1 => by
    unfold bestUp
    have h1 := lng_le b i (i - (k + 1))
    have h2 := bestUp_le b i k
    split
    · exact ⟨h1, Nat.le_refl _⟩
    · exact ⟨h2.1, by omega⟩

set_option maxRecDepth 20000 in
set_option maxHeartbeats 2000000 in
theorem rbest_any (A : Option Addr) (c : Nat) (b : List Int) (i n : Nat) (w : World) (hn : b.length = n) (hr : Reads w .u8 A n b) (hl : n ≤ 10000) (hi : i ≤ n) :
    Calls Try.prog 20 #[.slice A n c, .int .i64 i] w fun e w' => e = .returned (.tuple #[.int .i64 ((best b i).1 : Nat), .int .i64 ((best b i).2 : Nat)]) ∧ Same w w' := by
  have HR := Lib.hid hr; clear hr
  have HN := Lib.hid hn; clear hn
  have hiI : (i : Int) ≤ 10000 := by omega
  have HL := Lib.hid hl; have HI := Lib.hid hi; clear hl hi
  go_enter Try.func20, Try.ntmps20
  go_wp2
  go_loopw [6, 7, 8] (fun v6 v7 v8 wr => ∃ f : Nat, v8 = .int .i64 ((f : Int) + 1) ∧ v6 = .int .i64 ((bestUp b i f).1 : Nat) ∧ v7 = .int .i64 ((bestUp b i f).2 : Nat) ∧ (f : Int) ≤ i ∧ Same w wr) (fun _ _ v8 _ => i + 2 - (intOf v8).toNat)
  case atStart => exact ⟨0, rfl, rfl, rfl, by omega, Fr.refl _ _⟩
  case round =>
    obtain ⟨f, rfl, rfl, rfl, hf, hS⟩ := hrel
    have HS := Lib.hid hS; clear hS
    by_cases hfi : (f : Int) + 1 ≤ i
    · have h655 : (f : Int) + 1 ≤ 65535 := by omega
      have HC := Lib.hid (rlong_any A c b i (f + 1) n wr HN.out (HR.out.fr HS.out (fun _ _ _ h => h)) (by have := HL.out; omega) HI.out (by omega) (by omega))
      have hbe : bestUp b i (f + 1) = if (bestUp b i f).1 < lng b i (i - (f + 1)) then (lng b i (i - (f + 1)), f + 1) else bestUp b i f := rfl
      have HBE := Lib.hid hbe; clear hbe
      generalize lng b i (i - (f + 1)) = ln at *
      generalize bestUp b i f = r at *
      have HFS : Hid ((f : Int) ≤ 10000) := (show (f : Int) ≤ 10000 by omega)
      have HFI := Lib.hid hfi; have HF := Lib.hid hf; have HII := Lib.hid hiI
      clear hf hiI
      go_wp2_with fail
      refine HC.out.mono ?_
      rintro e w2 ⟨rfl, h2⟩
      have H2 := Lib.hid h2
      clear h2 hfi HC h655
      have hfs : (f : Int) ≤ 10000 := HFS.out
      by_cases hlt : (r.1 : Int) < ln
      · go_wp2
        go_roundw
        case rel => exact ⟨f + 1, by go_num, by rw [HBE.out, if_pos (by omega)], by rw [HBE.out, if_pos (by omega)]; go_num, by have := HFI.out; omega, HS.out.trans' H2.out⟩
        case measure => have := HFI.out; simp [intOf]; omega
      · have HLT := Lib.hid hlt
        go_wp2
        go_roundw
        case rel => exact ⟨f + 1, by go_num, by rw [HBE.out, if_neg (by have := HLT.out; omega)], by rw [HBE.out, if_neg (by have := HLT.out; omega)], by have := HFI.out; omega, HS.out.trans' H2.out⟩
        case measure => have := HFI.out; simp [intOf]; omega
    · obtain rfl : f = i := by omega
      have HB : Hid (best b f = if (bestUp b f f).1 < 4 then (0, 0) else bestUp b f f) := rfl
      generalize bestUp b f f = r at *
      by_cases h4 : (r.1 : Int) < 4
      · have E : Hid (best b f = (0, 0)) := (HB.out.trans (if_pos (by omega)) : best b f = (0, 0))
        go_wp2
        go_ret2
        exact ⟨by rw [E.out]; rfl, HS.out⟩
      · have E : Hid (best b f = r) := (HB.out.trans (if_neg (by omega)) : best b f = r)
        go_wp2
        go_ret2
        exact ⟨by rw [E.out]; rfl, HS.out⟩
end Go.Proofs.Ytclamfdmgflofaa
