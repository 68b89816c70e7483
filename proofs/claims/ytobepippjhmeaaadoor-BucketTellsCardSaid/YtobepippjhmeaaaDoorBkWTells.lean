/- The walk of BucketTells. -/
import Derived.Test.YtobepippjhmeaaaDoorBkHelp2
namespace Go.Proofs.YtobepippjhmeaaaDoor
open Go.RowKit
open Bk

theorem size_sv (n : Int) : ∃ s r : Int, (∀ w, Calls Tryd.prog 11 #[.int .i64 n] w fun e w' => e = .returned (.tuple #[.int .i64 s, .int .i64 r]) ∧ w' = w) ∧ (∀ w, Calls Tryd.prog 12 #[.int .i64 n] w fun e w' => e = .returned (.tuple #[.int .i64 s, .int .i64 r]) ∧ w' = w) :=
  ⟨sv n, se n, fun w => size_any n w, fun w => rsize_any n w⟩

set_option maxRecDepth 20000 in
set_option maxHeartbeats 2000000 in
theorem bucketTells_walk (w : World) (n0 : Int) (_ : -9223372036854775808 ≤ n0 ∧ n0 ≤ 9223372036854775807) (A : Option Addr) (c : Nat) (zs : List Int) (hrz : Reads w .u8 A zs.length zs ∧ zs.length ≤ c) (hx : ∀ x ∈ zs, 0 ≤ x ∧ x ≤ 255) (z : Int) (hz : 0 ≤ z ∧ z ≤ 65535) :
    Calls Tryd.prog 4 #[.int .i64 n0, .slice A zs.length c, .int .u16 z] w fun e w' => e = .returned (.bool true) ∧ Below w.heap.size w w' := by
  have R1 := Lib.hid hrz.1
  clear hrz
  obtain ⟨s, r, hs1, hs2⟩ := size_sv n0
  have S1 := Lib.hid hs1; have S2 := Lib.hid hs2; clear hs1 hs2
  by_cases h1 : (2000 : Int) < zs.length
  · have hl1 := R1.out.2.1
    have HL1 := Lib.hid hl1; clear hl1 hx
    go_enter Tryd.func4, Tryd.ntmps4
    go_wp2_with (go_at_call 10; refine (awake_any w).mono ?_; rintro e w1 ⟨rfl, hb⟩; have HB := Lib.hid hb; clear hb)
    go_ret
    exact ⟨rfl, HB.out⟩
  · obtain ⟨n, hn⟩ : ∃ n, zs.length = n := ⟨_, rfl⟩
    obtain ⟨m, hm⟩ : ∃ m : Nat, z % 4000 = m := Int.eq_ofNat_of_zero_le (by omega)
    have hm2 : m < 4000 := by omega
    have hn2 : n ≤ 2000 := by omega
    have HN2 := Lib.hid hn2; have HM2 := Lib.hid hm2
    have HM := Lib.hid hm; clear hm
    -- the pads
    have HP := Lib.hid (fun A c w hr => pad_len hn rfl (by omega) A c w hr)
    have HQ := Lib.hid (fun A c w hr => rpad_len hn rfl (by omega) A c w hr)
    obtain ⟨pl, hpl⟩ : ∃ pl, padL zs = pl := ⟨_, rfl⟩
    rw [hpl] at HP HQ
    generalize size (n + 1) = N at HP HQ
    -- the long bytes
    have hcl : (zs ++ List.replicate m 0 : List Int).length = n + m := by simp [hn]
    have hE : ([] ++ zs.map (Value.int .u8)) ++ List.replicate m (Value.int .u8 0) = (zs ++ List.replicate m 0 : List Int).map (Value.int .u8) := by simp
    have hxc : ∀ x ∈ (zs ++ List.replicate m 0 : List Int), 0 ≤ x ∧ x ≤ 255 := fun x h => by
      rcases List.mem_append.1 h with h | h
      · exact hx x h
      · have := List.eq_of_mem_replicate h; omega
    obtain ⟨cl, hcd⟩ : ∃ cl : List Int, zs ++ List.replicate m 0 = cl := ⟨_, rfl⟩
    rw [hcd] at hcl hE hxc
    have HE := Lib.hid hE; clear hE hcd
    obtain ⟨t, ht⟩ := trim_exists cl
    obtain ⟨ul, hul⟩ : ∃ ul, ux cl t = ul := ⟨_, rfl⟩
    obtain ⟨U, hU⟩ : ∃ U, ul.length = U := ⟨_, rfl⟩
    obtain ⟨er, her⟩ : ∃ er, ue cl t = er := ⟨_, rfl⟩
    have HU := Lib.hid (fun A c w hr hc => unpad_any_len hcl (by omega) ht hul hU her A c w hr hc)
    have HV := Lib.hid (fun A c w hr hc => runpad_any_len hcl (by omega) ht hxc hul hU her A c w hr hc)
    rw [hn] at h1 R1 ⊢
    have hni : (n : Int) ≤ 2000 := by omega
    have hmi : (m : Int) ≤ 4000 := by omega
    clear hcl hn2 hm2 hn hpl ht hxc hul hU her hx
    go_enter Tryd.func4, Tryd.ntmps4
    go_wp2_with fail
    refine (awake_any w).mono ?_
    rintro e w1 ⟨rfl, hb⟩
    have B1 := Lib.hid hb; clear hb
    go_wp2_with fail
    refine (S1.out w1).mono ?_
    rintro e w1' ⟨rfl, rfl⟩
    go_wp2_with fail
    refine (S2.out _).mono ?_
    rintro e w1'' ⟨rfl, rfl⟩
    go_wp2_with fail
    refine (HP.out _ _ _ (R1.out.same B1.out)).mono ?_
    rintro e w2 ⟨A2, c2, rfl, _, h2, hb2⟩
    have B2 := Lib.hid (B1.out.trans (hb2.mono B1.out.size))
    have P2 := Lib.hid h2
    clear h2 hb2
    go_wp2_with fail
    refine (HQ.out _ _ _ (R1.out.same B2.out)).mono ?_
    rintro e w3 ⟨A3, c3, rfl, h3, hb3⟩
    have B3 := Lib.hid (B2.out.trans (hb3.mono B2.out.size))
    have P3 := Lib.hid (P2.out.same hb3)
    have Q3 := Lib.hid h3
    clear h3 hb3
    go_wp2_with (first
      | (at_builtin; refine wpList_append_reads rfl (.tmp 46) (.tmp 47) 23 5 rfl Tryd.underlying23 info5 (.slice (some ⟨w3.heap.size, 0, none⟩) 0 0) 0 n c A [] zs rfl rfl (World.ownsRow_made w3 #[] 0 (Nat.zero_le _) (Nat.zero_le _) rfl) ((R1.out.same B3.out).same (below_fr ((Fr.refl _ _).alloc _))) (by have := HN2.out; omega) ?_; intro v4 w4 hown hfr hloc; rw [Nat.zero_add] at hown; obtain ⟨A4, k4, rfl⟩ := own_shape hown; have HO4 := Lib.hid hown; clear hown; have BF4 := Lib.hid (alloc_grown hfr); clear hfr; have HF4 := Lib.hid (from_alloc hloc); clear hloc)
      | (at_builtin; refine wpList_append_zeros_at rfl (.tmp 48) (.tmp 51) 23 3 5 rfl Tryd.t5 Tryd.underlying23 (k := .i64) Tryd.underlying3 rfl rfl rfl rfl (.slice A4 n k4) n m _ rfl (congrArg (Value.int .i64) HM.out) HO4.out (by have := HN2.out; have := HM2.out; omega) w3.heap.size BF4.out.size HF4.out ?_; intro v5 w5 hown hfr hfo; obtain ⟨A5, k5, rfl⟩ := own_shape hown; have HO5 := Lib.hid hown; clear hown; have BF5 := Lib.hid hfr; clear hfr hfo))
    have bb : Below w3.heap.size w3 w5 := BF4.out.trans BF5.out
    have B5 := Lib.hid (B3.out.trans (bb.mono B3.out.size))
    have P5 := Lib.hid (P3.out.same bb)
    have Q5 := Lib.hid (Q3.out.same bb)
    clear bb
    have ho := HO5.out
    rw [HE.out] at ho
    obtain ⟨A6, k6, he, hr6, hk6⟩ := own_readsc ho
    injection he with e1 e2 e3
    subst e1; subst e3
    have R6 := Lib.hid hr6
    have K6 := Lib.hid hk6
    clear ho e2 hr6 hk6
    refine (HU.out _ _ w5 R6.out K6.out).mono ?_
    rintro e w7 ⟨A7, c7, rfl, h7, hb7⟩
    have B7 := Lib.hid (B5.out.trans (hb7.mono B5.out.size))
    have P7 := Lib.hid (P5.out.same hb7)
    have Q7 := Lib.hid (Q5.out.same hb7)
    have R7 := Lib.hid (R6.out.same hb7)
    have U7 := Lib.hid h7
    clear h7 hb7
    go_wp2_with fail
    refine (HV.out _ _ w7 R7.out K6.out).mono ?_
    rintro e w8 ⟨A8, c8, rfl, h8, hb8⟩
    have B8 := Lib.hid (B7.out.trans (hb8.mono B7.out.size))
    have q1 := conv_reads (c := c2) (P7.out.same hb8)
    have q2 := conv_reads (c := c3) (Q7.out.same hb8)
    have q3 := conv_reads (c := c7) (U7.out.same hb8)
    have q4 := conv_reads (c := c8) h8
    clear h8 hb8
    go_wp2
    go_ret
    exact ⟨ret_bool (by simp), B8.out⟩
end Go.Proofs.YtobepippjhmeaaaDoor
