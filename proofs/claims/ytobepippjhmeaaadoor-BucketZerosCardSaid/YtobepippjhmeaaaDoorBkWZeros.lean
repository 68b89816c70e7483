/- The walk of BucketZeros. -/
import Derived.Test.YtobepippjhmeaaaDoorBkHelp2
namespace Go.Proofs.YtobepippjhmeaaaDoor
open Go.RowKit
open Bk

set_option maxRecDepth 20000 in
set_option maxHeartbeats 2000000 in
theorem bucketZeros_walk (w : World) (A : Option Addr) (c : Nat) (zs : List Int) (hrz : Reads w .u8 A zs.length zs ∧ zs.length ≤ c) (_ : ∀ x ∈ zs, 0 ≤ x ∧ x ≤ 255) (z : Int) (hz : 0 ≤ z ∧ z ≤ 65535) (last : Bool) :
    Calls Tryd.prog 9 #[.slice A zs.length c, .int .u16 z, .bool last] w fun e w' => e = .returned (.bool true) ∧ Below w.heap.size w w' := by
  have R1 := Lib.hid hrz.1
  clear hrz
  have hl1 := R1.out.2.1
  have HL1 := Lib.hid hl1; clear hl1
  by_cases h1 : (2000 : Int) < zs.length
  · go_enter Tryd.func9, Tryd.ntmps9
    go_wp2_with (go_at_call 10; refine (awake_any w).mono ?_; rintro e w1 ⟨rfl, hb⟩; have HB := Lib.hid hb; clear hb)
    go_ret
    exact ⟨rfl, HB.out⟩
  · obtain ⟨n, hn⟩ : ∃ n, zs.length = n := ⟨_, rfl⟩
    rw [hn] at h1 R1 HL1 ⊢
    have HN := Lib.hid hn; clear hn
    obtain ⟨m, hm⟩ : ∃ m : Nat, z % 1000 = m := Int.eq_ofNat_of_zero_le (by omega)
    have hm2 : m < 1000 := by omega
    have HM := Lib.hid hm; clear hm
    have hn2 : n ≤ 2000 := by omega
    have HN2 := Lib.hid hn2; have HM2 := Lib.hid hm2
    have hni : (n : Int) ≤ 2000 := by omega
    have hmi : (m : Int) ≤ 1000 := by omega
    cases last
    · have hcl : (zs ++ List.replicate m 0 : List Int).length = n + m := by simp [HN.out]
      have hE : ([] ++ zs.map (Value.int .u8)) ++ List.replicate m (Value.int .u8 0) = (zs ++ List.replicate m 0 : List Int).map (Value.int .u8) := by simp
      obtain ⟨cl, hcd⟩ : ∃ cl : List Int, zs ++ List.replicate m 0 = cl := ⟨_, rfl⟩
      rw [hcd] at hcl hE
      have HE := Lib.hid hE; clear hE hcd
      have HP := Lib.hid (fun A c w hr => pad_len hcl rfl (by omega) A c w hr)
      have HU := Lib.hid (fun A c w hr hc => unpad_len hcl rfl (by omega) A c w hr hc)
      generalize size (n + m + 1) = N at HP HU
      clear hcl hn2 hm2
      go_enter Tryd.func9, Tryd.ntmps9
      go_wp2_with fail
      refine (awake_any w).mono ?_
      rintro e w1 ⟨rfl, hb⟩
      have B1 := Lib.hid hb; clear hb
      go_wp2_with (first
        | (at_builtin; refine wpList_append_reads rfl (.tmp 18) (.tmp 19) 23 5 rfl Tryd.underlying23 info5 (.slice (some ⟨w1.heap.size, 0, none⟩) 0 0) 0 n c A [] zs rfl rfl (World.ownsRow_made w1 #[] 0 (Nat.zero_le _) (Nat.zero_le _) rfl) ((R1.out.same B1.out).same (below_fr ((Fr.refl _ _).alloc _))) (by have := HN2.out; omega) ?_; intro v2 w2 hown hfr hloc; rw [Nat.zero_add] at hown; obtain ⟨A2, k2, rfl⟩ := own_shape hown; have HO2 := Lib.hid hown; clear hown; have BF2 := Lib.hid (alloc_grown hfr); clear hfr; have HF2 := Lib.hid (from_alloc hloc); clear hloc)
        | (at_builtin; refine wpList_append_zeros_at rfl (.tmp 20) (.tmp 23) 23 3 5 rfl Tryd.t5 Tryd.underlying23 (k := .i64) Tryd.underlying3 rfl rfl rfl rfl (.slice A2 n k2) n m _ rfl (congrArg (Value.int .i64) HM.out) HO2.out (by have := HN2.out; have := HM2.out; omega) w1.heap.size BF2.out.size HF2.out ?_; intro v3 w3 hown hfr hfo; obtain ⟨A3, k3, rfl⟩ := own_shape hown; have HO3 := Lib.hid hown; clear hown; have BF3 := Lib.hid hfr; have HF3 := Lib.hid hfo; clear hfr hfo))
      have BB := Lib.hid (B1.out.trans ((BF2.out.trans BF3.out).mono B1.out.size))
      have ho := HO3.out
      rw [HE.out] at ho
      obtain ⟨A5, k5, he, hr5, hk5⟩ := own_readsc ho
      injection he with e1 e2 e3
      subst e1
      clear ho e2 e3 hk5
      refine (HP.out _ _ w3 hr5).mono ?_
      rintro e w6 ⟨A6, c6, rfl, hc6, h6, hb6⟩
      have R6 := Lib.hid (hr5.same hb6)
      have B6 := Lib.hid (BB.out.trans (hb6.mono BB.out.size))
      have P6 := Lib.hid h6
      have C6 := Lib.hid hc6
      clear hr5 h6 hb6 hc6
      go_wp2_with fail
      refine (HU.out _ _ w6 P6.out C6.out).mono ?_
      rintro e w7 ⟨A7, c7, rfl, h7, hb7⟩
      have B7 := Lib.hid (B6.out.trans (hb7.mono B6.out.size))
      have q1 := conv_reads (c := c7) h7
      have q2 := conv_reads (c := k3) (R6.out.same hb7)
      clear h7 hb7
      go_wp2
      go_ret
      exact ⟨ret_bool (by simp), B7.out⟩
    · have hcl : (zs ++ List.replicate m 0 ++ [128] : List Int).length = n + m + 1 := by simp [HN.out]; omega
      have hE : ([] ++ zs.map (Value.int .u8)) ++ List.replicate m (Value.int .u8 0) ++ [Value.int .u8 128] = (zs ++ List.replicate m 0 ++ [128] : List Int).map (Value.int .u8) := by simp
      obtain ⟨cl, hcd⟩ : ∃ cl : List Int, zs ++ List.replicate m 0 ++ [128] = cl := ⟨_, rfl⟩
      rw [hcd] at hcl hE
      have HE := Lib.hid hE; clear hE hcd
      have HP := Lib.hid (fun A c w hr => pad_len hcl rfl (by omega) A c w hr)
      have HU := Lib.hid (fun A c w hr hc => unpad_len hcl rfl (by omega) A c w hr hc)
      generalize size (n + m + 1 + 1) = N at HP HU
      clear hcl hn2 hm2
      go_enter Tryd.func9, Tryd.ntmps9
      go_wp2_with fail
      refine (awake_any w).mono ?_
      rintro e w1 ⟨rfl, hb⟩
      have B1 := Lib.hid hb; clear hb
      go_wp2_with (first
        | (at_builtin; refine wpList_append_reads rfl (.tmp 18) (.tmp 19) 23 5 rfl Tryd.underlying23 info5 (.slice (some ⟨w1.heap.size, 0, none⟩) 0 0) 0 n c A [] zs rfl rfl (World.ownsRow_made w1 #[] 0 (Nat.zero_le _) (Nat.zero_le _) rfl) ((R1.out.same B1.out).same (below_fr ((Fr.refl _ _).alloc _))) (by have := HN2.out; omega) ?_; intro v2 w2 hown hfr hloc; rw [Nat.zero_add] at hown; obtain ⟨A2, k2, rfl⟩ := own_shape hown; have HO2 := Lib.hid hown; clear hown; have BF2 := Lib.hid (alloc_grown hfr); clear hfr; have HF2 := Lib.hid (from_alloc hloc); clear hloc)
        | (at_builtin; refine wpList_append_zeros_at rfl (.tmp 20) (.tmp 23) 23 3 5 rfl Tryd.t5 Tryd.underlying23 (k := .i64) Tryd.underlying3 rfl rfl rfl rfl (.slice A2 n k2) n m _ rfl (congrArg (Value.int .i64) HM.out) HO2.out (by have := HN2.out; have := HM2.out; omega) w1.heap.size BF2.out.size HF2.out ?_; intro v3 w3 hown hfr hfo; obtain ⟨A3, k3, rfl⟩ := own_shape hown; have HO3 := Lib.hid hown; clear hown; have BF3 := Lib.hid hfr; have HF3 := Lib.hid hfo; clear hfr hfo)
        | (at_builtin; refine wpList_append_one rfl (.tmp 26) (.tmp 27) 23 rfl Tryd.t5 (.int .u8 0) 1 Tryd.underlying23 rfl rfl rfl rfl rfl (.slice A3 (n + m) k3) (n + m) _ rfl rfl HO3.out rfl (by decide) (by have := HN2.out; have := HM2.out; omega) ?_; intro v4 w4 hown hfr hloc; obtain ⟨A4, k4, rfl⟩ := own_shape hown; have HO4 := Lib.hid hown; clear hown; have HFr4 := Lib.hid hfr; clear hfr; have HL4 := Lib.hid hloc; clear hloc))
      have bf4 : Below w1.heap.size w3 w4 := grown_from HFr4.out (Nat.le_trans BF2.out.size BF3.out.size) HF3.out
      have BB := Lib.hid (B1.out.trans (((BF2.out.trans BF3.out).trans bf4).mono B1.out.size))
      clear bf4
      have ho := HO4.out
      rw [HE.out] at ho
      obtain ⟨A5, k5, he, hr5, hk5⟩ := own_readsc ho
      injection he with e1 e2 e3
      subst e1
      clear ho e2 e3 hk5
      refine (HP.out _ _ w4 hr5).mono ?_
      rintro e w6 ⟨A6, c6, rfl, hc6, h6, hb6⟩
      have R6 := Lib.hid (hr5.same hb6)
      have B6 := Lib.hid (BB.out.trans (hb6.mono BB.out.size))
      have P6 := Lib.hid h6
      have C6 := Lib.hid hc6
      clear hr5 h6 hb6 hc6
      go_wp2_with fail
      refine (HU.out _ _ w6 P6.out C6.out).mono ?_
      rintro e w7 ⟨A7, c7, rfl, h7, hb7⟩
      have B7 := Lib.hid (B6.out.trans (hb7.mono B6.out.size))
      have q1 := conv_reads (c := c7) h7
      have q2 := conv_reads (c := k4) (R6.out.same hb7)
      clear h7 hb7
      go_wp2
      go_ret
      exact ⟨ret_bool (by simp), B7.out⟩
end Go.Proofs.YtobepippjhmeaaaDoor
