/- The walk of BucketBack. -/
import Derived.Test.YtobepippjhmeaaaDoorBkHelp2
namespace Go.Proofs.YtobepippjhmeaaaDoor
open Go.RowKit
open Bk

set_option maxRecDepth 20000 in
set_option maxHeartbeats 2000000 in
theorem bucketBack_walk (w : World) (A : Option Addr) (c : Nat) (zs : List Int) (hrz : Reads w .u8 A zs.length zs ∧ zs.length ≤ c) (_ : ∀ x ∈ zs, 0 ≤ x ∧ x ≤ 255) (by0 : Int) (_ : 0 ≤ by0 ∧ by0 ≤ 255) :
    Calls Tryd.prog 5 #[.slice A zs.length c, .int .u8 by0] w fun e w' => e = .returned (.bool true) ∧ Below w.heap.size w w' := by
  have R1 := Lib.hid hrz.1
  clear hrz
  by_cases h1 : (5000 : Int) < zs.length
  · have hl1 := R1.out.2.1
    have HL1 := Lib.hid hl1; clear hl1
    go_enter Tryd.func5, Tryd.ntmps5
    go_wp2_with (go_at_call 10; refine (awake_any w).mono ?_; rintro e w1 ⟨rfl, hb⟩; have HB := Lib.hid hb; clear hb)
    go_ret
    exact ⟨rfl, HB.out⟩
  · obtain ⟨n, hn⟩ : ∃ n, zs.length = n := ⟨_, rfl⟩
    have hn2 : n ≤ 5000 := by omega
    have hni : (n : Int) ≤ 5000 := by omega
    have HP := Lib.hid (fun A c w hr => pad_len hn rfl (by omega) A c w hr)
    have HU := Lib.hid (fun A c w hr hc => unpad_len hn rfl (by omega) A c w hr hc)
    have HS := Lib.hid (fun w => size_at ((n : Int) + 1) (n + 1) (by omega) (by omega) w)
    have hpl := length_padL zs (by omega)
    rw [hn] at hpl h1 R1 ⊢
    have f1 := size_1024 (n + 1) (by omega)
    have f2 := size_dvd (n + 1) (by omega)
    have f3 := size_small (n + 1) (by omega)
    obtain ⟨pl, hpd⟩ : ∃ pl, padL zs = pl := ⟨_, rfl⟩
    rw [hpd] at HP HU hpl
    generalize size (n + 1) = N at *
    -- a byte more
    have hl2 : (pl ++ [by0]).length = N + 1 := by simp [hpl]
    have hE : ([] ++ pl.map (Value.int .u8)) ++ [Value.int .u8 by0] = (pl ++ [by0]).map (Value.int .u8) := by simp
    obtain ⟨p2, hp2⟩ : ∃ p2, pl ++ [by0] = p2 := ⟨_, rfl⟩
    rw [hp2] at hl2 hE
    obtain ⟨t2, ht2⟩ := trim_exists p2
    obtain ⟨u2, hu2⟩ : ∃ u, ux p2 t2 = u := ⟨_, rfl⟩
    obtain ⟨U2, hU2⟩ : ∃ U, u2.length = U := ⟨_, rfl⟩
    have H2 := Lib.hid (fun A c w hr hc => unpad_any_len hl2 (by omega) ht2 hu2 hU2 (bad_len p2 t2 ht2 (by omega) (by omega)) A c w hr hc)
    -- a byte fewer
    have hl3 : (pl.take (N - 1)).length = N - 1 := by rw [List.length_take]; omega
    obtain ⟨p3, hp3⟩ : ∃ p3, pl.take (N - 1) = p3 := ⟨_, rfl⟩
    rw [hp3] at hl3
    obtain ⟨t3, ht3⟩ := trim_exists p3
    obtain ⟨u3, hu3⟩ : ∃ u, ux p3 t3 = u := ⟨_, rfl⟩
    obtain ⟨U3, hU3⟩ : ∃ U, u3.length = U := ⟨_, rfl⟩
    have H3 := Lib.hid (fun A c w hr hc => unpad_any_len hl3 (by omega) ht3 hu3 hU3 (bad_len p3 t3 ht3 (by omega) (by omega)) A c w hr hc)
    have HT := Lib.hid (fun (A : Option Addr) (w : World) (hr : Reads w .u8 A N pl) => hp3 ▸ hr.take (N - 1) (Nat.sub_le _ _))
    obtain ⟨N, rfl⟩ : ∃ M, N = M + 1 := ⟨N - 1, by omega⟩
    rw [Nat.add_sub_cancel] at H3 HT
    have HE := Lib.hid hE
    have F3 := Lib.hid f3
    have hN0 : ¬ ((N : Int) + 1 < 1024) := by omega
    have hN1 : (N : Int) ≤ 20000 := by omega
    clear hl2 hE hp2 ht2 hu2 hU2 hl3 hp3 ht3 hu3 hU3 hpl hpd f1 f2 f3 hn2 hn
    go_enter Tryd.func5, Tryd.ntmps5
    go_wp2_with fail
    refine (awake_any w).mono ?_
    rintro e w1 ⟨rfl, hb⟩
    have B1 := Lib.hid hb; clear hb
    go_wp2_with fail
    refine (HP.out _ _ _ (R1.out.same B1.out)).mono ?_
    rintro e w2 ⟨A2, c2, rfl, hc2, h2, hb2⟩
    have B2 := Lib.hid (B1.out.trans (hb2.mono B1.out.size))
    have P2 := Lib.hid h2
    have C2 := Lib.hid hc2
    have hc2i : (N : Int) + 1 ≤ c2 := by omega
    clear h2 hb2 hc2
    go_wp2_with fail
    refine (HU.out _ _ _ P2.out C2.out).mono ?_
    rintro e w3 ⟨A3, c3, rfl, h3, hb3⟩
    have B3 := Lib.hid (B2.out.trans (hb3.mono B2.out.size))
    have P3 := Lib.hid (P2.out.same hb3)
    have U3' := Lib.hid h3
    clear h3 hb3
    go_wp2_with fail
    refine (HS.out w3).mono ?_
    rintro e w4 ⟨rfl, rfl⟩
    have q1 := conv_reads (c := c3) U3'.out
    have q2 := conv_reads (c := c) (R1.out.same B3.out)
    go_wp2_with (first
      | (at_builtin; refine wpList_append_reads rfl (.tmp 66) (.tmp 67) 23 5 rfl Tryd.underlying23 info5 (.slice (some ⟨w4.heap.size, 0, none⟩) 0 0) 0 (N + 1) c2 A2 [] pl rfl rfl (World.ownsRow_made w4 #[] 0 (Nat.zero_le _) (Nat.zero_le _) rfl) (P3.out.same (below_fr ((Fr.refl _ _).alloc _))) (by have := F3.out; omega) ?_; intro v5 w5 hown hfr hloc; rw [Nat.zero_add] at hown; obtain ⟨A5, k5, rfl⟩ := own_shape hown; have HO5 := Lib.hid hown; clear hown; have BF5 := Lib.hid (alloc_grown hfr); clear hfr; have HF5 := Lib.hid (from_alloc hloc); clear hloc)
      | (at_builtin; refine wpList_append_one rfl (.tmp 68) (.tmp 70) 23 rfl Tryd.t5 (.int .u8 0) 1 Tryd.underlying23 rfl rfl rfl rfl rfl (.slice A5 (N + 1) k5) (N + 1) _ rfl rfl HO5.out rfl (by decide) (by have := F3.out; omega) ?_; intro v6 w6 hown hfr hloc; obtain ⟨A6, k6, rfl⟩ := own_shape hown; have HO6 := Lib.hid hown; clear hown; have HFr6 := Lib.hid hfr; clear hfr hloc))
    have bf6 : Below w4.heap.size w5 w6 := grown_from HFr6.out BF5.out.size HF5.out
    have bb : Below w4.heap.size w4 w6 := BF5.out.trans bf6
    have B6 := Lib.hid (B3.out.trans (bb.mono B3.out.size))
    have P6 := Lib.hid (P3.out.same bb)
    clear bb bf6
    have ho := HO6.out
    rw [HE.out] at ho
    obtain ⟨A7, k7, he, hr6, hk6⟩ := own_readsc ho
    injection he with e1 e2 e3
    subst e1; subst e3
    have R6 := Lib.hid hr6
    have K6 := Lib.hid hk6
    clear ho e2 hr6 hk6
    refine (H2.out _ _ w6 R6.out K6.out).mono ?_
    rintro e w7 ⟨A7, c7, rfl, _, hb7⟩
    have B7 := Lib.hid (B6.out.trans (hb7.mono B6.out.size))
    have P7 := Lib.hid (P6.out.same hb7)
    clear hb7
    have hc2n : N ≤ c2 := by omega
    have HC := Lib.hid hc2n
    go_wp2_with fail
    refine (H3.out _ _ w7 (HT.out _ _ P7.out) HC.out).mono ?_
    rintro e w8 ⟨A8, c8, rfl, _, hb8⟩
    have B8 := Lib.hid (B7.out.trans (hb8.mono B7.out.size))
    clear hb8
    go_wp2
    go_ret
    exact ⟨rfl, B8.out⟩
end Go.Proofs.YtobepippjhmeaaaDoor
