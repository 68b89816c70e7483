/- The walk of FilesBack. -/
import Derived.Test.YtlgonkopojancaaDoorFxTold
namespace Go.Proofs.YtlgonkopojancaaDoor
open Go.RowKit

set_option maxRecDepth 20000 in
set_option maxHeartbeats 4000000 in
theorem filesBack_walk (w : World) (m : Int) (hm : w.cell? ⟨0, 0, none⟩ = some (.int .i64 m)) (A : Option Addr) (c : Nat) (fs : List Fi) (hF : Files w A fs.length c fs) (hok : ∀ f ∈ fs, FOk f) (B : Option Addr) (d : Nat) (zs : List Int) (hB : Reads w .u8 B zs.length zs ∧ zs.length ≤ d ∧ d ≤ 9223372036854775807) (hz : Bts zs) :
    Calls Tryd.prog 6 #[.slice A fs.length c, .slice B zs.length d] w fun e w' => e = .returned (.bool true) ∧ Below w.heap.size w w' := by
  have HOK := Lib.hid hok; have HZ := Lib.hid hz
  have R0 : Hid (Rd w B zs.length d zs) := hB
  have F0 : Hid (FRd w A fs.length fs) := hF.1
  have S0 := Lib.hid (St.refl hm)
  clear hm hF hok hB hz
  obtain ⟨N, hN⟩ : ∃ N, fs.length = N := ⟨_, rfl⟩
  obtain ⟨M, hM⟩ : ∃ M, zs.length = M := ⟨_, rfl⟩
  rw [hN] at F0 ⊢
  rw [hM] at R0 ⊢
  have HN := Lib.hid hN; have HM := Lib.hid hM
  clear hN hM
  rcases hfew : fewB fs with _ | _
  · have HFEW := Lib.hid hfew; clear hfew
    go_enter Tryd.func6, Tryd.ntmps6
    go_wp2_with fail
    refine (awake_told S0.out).mono ?_
    rintro e w1 ⟨rfl, st, b⟩
    have S1 := Lib.hid st; have F1 := Lib.hid (F0.out.below b)
    clear st b
    go_wp2_with fail
    refine (few_told S1.out F1.out HOK.out HFEW.out).mono ?_
    rintro e w2 ⟨rfl, st, b⟩
    have S2 := Lib.hid st
    clear st b
    go_wp2_with fail
    go_ret
    exact ⟨rfl, S2.out.bel⟩
  · have HFEW := Lib.hid hfew; clear hfew
    have HW := Lib.hid (few_ok HFEW.out)
    by_cases hl : (M : Int) > 2000
    · go_enter Tryd.func6, Tryd.ntmps6
      go_wp2_with fail
      refine (awake_told S0.out).mono ?_
      rintro e w1 ⟨rfl, st, b⟩
      have S1 := Lib.hid st; have F1 := Lib.hid (F0.out.below b)
      clear st b
      go_wp2_with fail
      refine (few_told S1.out F1.out HOK.out HFEW.out).mono ?_
      rintro e w2 ⟨rfl, st, b⟩
      have S2 := Lib.hid st
      clear st b
      go_wp2_with fail
      go_ret
      exact ⟨rfl, S2.out.bel⟩
    · have hl2 : (M : Int) ≤ 2000 := by omega
      obtain ⟨ck, hck⟩ : ∃ ck, checkI fs = ck := ⟨_, rfl⟩
      have HCK := Lib.hid hck; clear hck
      go_enter Tryd.func6, Tryd.ntmps6
      go_wp2_with fail
      refine (awake_told S0.out).mono ?_
      rintro e w1 ⟨rfl, st, b⟩
      have S1 := Lib.hid st; have F1 := Lib.hid (F0.out.below b); have R1 := Lib.hid (R0.out.below b)
      clear st b
      go_wp2_with fail
      refine (few_told S1.out F1.out HOK.out HFEW.out).mono ?_
      rintro e w2 ⟨rfl, st, b⟩
      have S2 := Lib.hid st; have F2 := Lib.hid (F1.out.below b); have R2 := Lib.hid (R1.out.below b)
      clear st b
      go_wp2_with fail
      by_cases h0 : ck = 0
      · subst h0
        refine (enc_told S2.out F2.out (by have := HW.out.1; have := HN.out; omega) HW.out.body HW.out.name HOK.out HCK.out).mono ?_
        rintro e w3 ⟨gs, A3, c3, rfl, hst, hr, st, b⟩
        obtain ⟨hd, hbt, hln⟩ := decP_sorted HW.out HOK.out HCK.out hst
        obtain ⟨E, hE⟩ : ∃ E, (encB gs).length = E := ⟨_, rfl⟩
        rw [hE] at hr hln ⊢
        have S3 := Lib.hid st; have F3 := Lib.hid (F2.out.below b); have R3 := Lib.hid (R2.out.below b)
        have HST := Lib.hid hst; have HR := Lib.hid hr; have HD := Lib.hid hd; have HBT := Lib.hid hbt; have HLN := Lib.hid hln
        clear st b hst hr hd hbt hln hE
        go_wp2_with fail
        refine (dec_told S3.out HR.out HBT.out (by have := HLN.out; omega) HD.out (by have := (HW.out.perm (stable_perm HST.out)).1; omega)).mono ?_
        rintro e w4 ⟨A4, c4, rfl, hf, st, b⟩
        obtain ⟨K, hK⟩ : ∃ K, gs.length = K := ⟨_, rfl⟩
        rw [hK] at hf ⊢
        have S4 := Lib.hid st; have F4 := Lib.hid (F3.out.below b); have R4 := Lib.hid (R3.out.below b); have G4 := Lib.hid hf
        clear st b hf hK
        go_wp2_with fail
        refine (sort_told S4.out F4.out (by have := HW.out.1; have := HN.out; omega) HW.out.body).mono ?_
        rintro e w5 ⟨gs', A5, c5, rfl, hst, hf, st, b⟩
        obtain rfl : gs = gs' := stable_unique HST.out hst
        have S5 := Lib.hid st; have R5 := Lib.hid (R4.out.below b); have G5 := Lib.hid (G4.out.below b); have K5 := Lib.hid hf
        clear st b hf hst
        go_wp2_with fail
        refine (same_told (B := true) S5.out G5.out K5.out (stable_ok HST.out fun f h => (HOK.out f h).body) (stable_ok HST.out fun f h => (HOK.out f h).body) (decide_eq_true rfl)).mono ?_
        rintro e w6 ⟨rfl, st, b⟩
        have S6 := Lib.hid st; have R6 := Lib.hid (R5.out.below b)
        clear st b
        clear S0 S1 S2 S3 S4 S5 F0 F1 F2 F3 F4 R0 R1 R2 R3 R4 R5 G4 G5 K5 HR HD HBT HLN HST
        go_wp2_with fail
        rcases hd : decP zs with _ | hs
        · have HD := Lib.hid hd; clear hd
          refine (dec_err S6.out R6.out HZ.out (by omega) HD.out).mono ?_
          rintro e w7 ⟨rfl, st, b⟩
          have S7 := Lib.hid st
          clear st b
          go_wp2_with fail
          go_ret
          exact ⟨rfl, S7.out.bel⟩
        · have HD := Lib.hid hd; clear hd
          obtain ⟨hz1, hz2, hz3, hz4, hz5⟩ := decP_inv HZ.out (by have := HM.out; omega) HD.out
          have HX := Lib.hid (And.intro hz1 (And.intro hz2 (And.intro hz3 (And.intro hz4 hz5))))
          clear hz1 hz2 hz3 hz4 hz5
          refine (dec_told S6.out R6.out HZ.out (by omega) HD.out HX.out.2.1).mono ?_
          rintro e w7 ⟨A7, c7, rfl, hf, st, b⟩
          obtain ⟨K2, hK⟩ : ∃ K, hs.length = K := ⟨_, rfl⟩
          rw [hK] at hf ⊢
          have S7 := Lib.hid st; have R7 := Lib.hid (R6.out.below b); have H7 := Lib.hid hf
          have HK2 : Hid (K2 ≤ 200) := (by rw [← hK]; exact HX.out.2.1 : K2 ≤ 200)
          clear st b hf hK
          go_wp2_with fail
          refine (enc_told S7.out H7.out HK2.out (fun f h => by have := (HX.out.2.2.2.2 f h).body; have := HM.out; omega) (fun f h => by have := (HX.out.2.2.2.2 f h).name; have := HM.out; omega) (fun f h => (HX.out.2.2.2.2 f h).ok) HX.out.2.2.2.1).mono ?_
          rintro e w8 ⟨gs2, A8, c8, rfl, hst, hr, st, b⟩
          have hg : gs2 = hs := stable_unique hst (stable_refl ((adj_srt hs).1 HX.out.2.2.1))
          rw [hg, ← HX.out.1] at hr ⊢
          have S8 := Lib.hid st; have H8 := Lib.hid (H7.out.below b)
          have c1 := conv_reads (c := c8) hr.1
          have c2 := conv_reads (c := d) (R7.out.below b).1
          rw [HM.out] at c1 ⊢
          clear st b hst hr hg
          go_wp2_with fail
          refine (check_told S8.out H8.out (by have := HK2.out; omega) (fun f h => by have := (HX.out.2.2.2.2 f h).body; have := HM.out; omega) (fun f h => (HX.out.2.2.2.2 f h).ok) HX.out.2.2.2.1).mono ?_
          rintro e w9 ⟨rfl, st, b⟩
          have S9 := Lib.hid st
          clear st b c1 c2
          go_wp2_with fail
          go_ret
          exact ⟨rfl, S9.out.bel⟩
      · refine (enc_err S2.out F2.out HW.out HOK.out HCK.out h0).mono ?_
        rintro e w6 ⟨rfl, st, b⟩
        have S6 := Lib.hid st; have R6 := Lib.hid (R2.out.below b)
        clear st b
        clear S0 S1 S2 F0 F1 F2 R0 R1 R2
        go_wp2_with fail
        rcases hd : decP zs with _ | hs
        · have HD := Lib.hid hd; clear hd
          refine (dec_err S6.out R6.out HZ.out (by omega) HD.out).mono ?_
          rintro e w7 ⟨rfl, st, b⟩
          have S7 := Lib.hid st
          clear st b
          go_wp2_with fail
          go_ret
          exact ⟨rfl, S7.out.bel⟩
        · have HD := Lib.hid hd; clear hd
          obtain ⟨hz1, hz2, hz3, hz4, hz5⟩ := decP_inv HZ.out (by have := HM.out; omega) HD.out
          have HX := Lib.hid (And.intro hz1 (And.intro hz2 (And.intro hz3 (And.intro hz4 hz5))))
          clear hz1 hz2 hz3 hz4 hz5
          refine (dec_told S6.out R6.out HZ.out (by omega) HD.out HX.out.2.1).mono ?_
          rintro e w7 ⟨A7, c7, rfl, hf, st, b⟩
          obtain ⟨K2, hK⟩ : ∃ K, hs.length = K := ⟨_, rfl⟩
          rw [hK] at hf ⊢
          have S7 := Lib.hid st; have R7 := Lib.hid (R6.out.below b); have H7 := Lib.hid hf
          have HK2 : Hid (K2 ≤ 200) := (by rw [← hK]; exact HX.out.2.1 : K2 ≤ 200)
          clear st b hf hK
          go_wp2_with fail
          refine (enc_told S7.out H7.out HK2.out (fun f h => by have := (HX.out.2.2.2.2 f h).body; have := HM.out; omega) (fun f h => by have := (HX.out.2.2.2.2 f h).name; have := HM.out; omega) (fun f h => (HX.out.2.2.2.2 f h).ok) HX.out.2.2.2.1).mono ?_
          rintro e w8 ⟨gs2, A8, c8, rfl, hst, hr, st, b⟩
          have hg : gs2 = hs := stable_unique hst (stable_refl ((adj_srt hs).1 HX.out.2.2.1))
          rw [hg, ← HX.out.1] at hr ⊢
          have S8 := Lib.hid st; have H8 := Lib.hid (H7.out.below b)
          have c1 := conv_reads (c := c8) hr.1
          have c2 := conv_reads (c := d) (R7.out.below b).1
          rw [HM.out] at c1 ⊢
          clear st b hst hr hg
          go_wp2_with fail
          refine (check_told S8.out H8.out (by have := HK2.out; omega) (fun f h => by have := (HX.out.2.2.2.2 f h).body; have := HM.out; omega) (fun f h => (HX.out.2.2.2.2 f h).ok) HX.out.2.2.2.1).mono ?_
          rintro e w9 ⟨rfl, st, b⟩
          have S9 := Lib.hid st
          clear st b c1 c2
          go_wp2_with fail
          go_ret
          exact ⟨rfl, S9.out.bel⟩
end Go.Proofs.YtlgonkopojancaaDoor
