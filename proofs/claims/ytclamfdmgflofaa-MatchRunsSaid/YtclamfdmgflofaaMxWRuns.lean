/- The walk of MatchRuns. -/
import Derived.Test.YtclamfdmgflofaaMxWBytes
namespace Go.Proofs.Ytclamfdmgflofaa
open Go.RowKit
open Mx

theorem wf_rep {x : Int} (h : (Lit.int .u8 x).wf = true) (n : Nat) : ∀ y ∈ List.replicate n x, (Lit.int .u8 y).wf = true := fun y hy => by
  rw [List.eq_of_mem_replicate hy]; exact h
theorem rep_snoc (x : Int) (n : Nat) : List.replicate (n + 1) x = List.replicate n x ++ [x] := List.replicate_succ'
theorem own_readsc {w : World} {base n : Nat} {e : TypeId} {v : Value} {xs : List Int} (h : w.ownsRow base e 1 v n (xs.map (Value.int .u8))) : ∃ A c, v = .slice A n c ∧ Reads w .u8 A n xs ∧ n ≤ c := by
  obtain ⟨A, c, e1, hr⟩ := own_reads h
  refine ⟨A, c, e1, hr, ?_⟩
  rcases h.2 with ⟨h1, h2⟩ | ⟨g, cap, cur, h1, _, _, hc, _⟩
  · rw [e1] at h1; injection h1 with _ h3 h4; omega
  · rw [e1] at h1; injection h1 with _ h3 h4; omega

set_option maxRecDepth 20000 in
set_option maxHeartbeats 8000000 in
theorem runs_any (w : World) (x : Int) (hx : (Lit.int .u8 x).wf = true) (times : Int) (ht : 0 ≤ times ∧ times ≤ 65535) (a0 : Option Addr) (cap0 : Nat) (zs : List Int) (h : BytesIn w a0 cap0 zs) :
    Calls Try.prog 7 #[.int .u8 x, .int .u16 times, .slice a0 zs.length cap0] w fun e w' => e = .returned (.bool true) ∧ Below w.heap.size w w' := by
  have HI := Lib.hid h; clear h
  have HX := Lib.hid hx; clear hx
  obtain ⟨ht1, ht2⟩ := ht
  obtain ⟨L, hL⟩ : ∃ L, zs.length = L := ⟨_, rfl⟩
  have HLL := Lib.hid hL
  rw [hL]
  obtain ⟨i5, hi, hq0, hq1, hq2⟩ := info_parts info5
  have HI5 := Lib.hid (And.intro hi (And.intro hq0 (And.intro hq1 hq2)))
  clear hi hq0 hq1 hq2 hL
  go_enter Try.func7, Try.ntmps7
  go_wp2_with (go_at_call 10; refine (awake_any w).mono ?_; rintro e w1 ⟨rfl, hb⟩; have HB := Lib.hid hb; clear hb)
  generalize hq : times % 1000 = q
  obtain ⟨n, rfl⟩ : ∃ n : Nat, q = (n : Int) := ⟨q.toNat, by omega⟩
  have hn1 : (n : Int) < 1000 := by omega
  clear hq
  go_loopw [9, 10] (fun v9 v10 wr => ∃ i : Nat, v10 = .int .i64 i ∧ Hid (i ≤ n) ∧ Hid (wr.ownsRow 0 5 1 v9 i ((List.replicate i x).map (Value.int .u8))) ∧ Hid (From w.heap.size v9) ∧ Hid (Below w.heap.size w wr)) (fun _ v10 _ => n - (intOf v10).toNat)
  case atStart => exact ⟨0, rfl, Nat.zero_le _, World.ownsRow_nil _ _ _ _, From.none _ _ _, HB.out⟩
  case round =>
    obtain ⟨i, rfl, HIN, HO, HV, HB2⟩ := hrel
    by_cases hi : (i : Int) < n
    · obtain ⟨A3, k3, rfl⟩ := own_shape HO.out
      go_wp2_with (at_builtin; refine wpList_append_one rfl (.tmp 26) (.tmp 28) 23 rfl i5 (.int .u8 0) 1 Try.underlying23 HI5.out.1 HI5.out.2.1 HI5.out.2.2.1 HI5.out.2.2.2 rfl (.slice A3 i k3) i ((List.replicate i x).map (Value.int .u8)) rfl rfl HO.out rfl (by decide) (by omega) ?_; intro v4 w4 hown hfr hloc; obtain ⟨A4, k4, rfl⟩ := own_shape hown; have O4 := Lib.hid hown; have F4 := Lib.hid hfr; have L4 := Lib.hid hloc; clear hown hfr hloc)
      go_roundw
      case rel =>
        refine ⟨i + 1, by go_num, (by omega : i + 1 ≤ n), ?_, from_one L4.out HB2.out.size HV.out, HB2.out.trans (grown_from F4.out HB2.out.size HV.out)⟩
        show World.ownsRow _ _ _ _ _ _ _
        have := O4.out
        rw [rep_snoc]
        simpa using this
      case measure => simp [intOf]; omega
    · have hin : i = n := by have := HIN.out; omega
      subst hin
      obtain ⟨A3, k3, rfl, hr3, hc3⟩ := own_readsc HO.out
      have HF := Lib.hid (find_any A3 k3 (List.replicate i x) i wr (List.length_replicate ..) hr3 (wf_rep HX.out i) (by omega) hc3)
      clear hr3 hc3
      have hT1 := fun t h1 h2 h3 => find_run_far x i t h1 h2 h3
      have hT2 := fun h => find_run_one x i h
      have htl0 : (find (List.replicate i x)).length ≤ 1000 := by
        have := find_len (List.replicate i x)
        rw [List.length_replicate] at this
        omega
      generalize find (List.replicate i x) = T at *
      have HT1 := Lib.hid hT1; have HT2 := Lib.hid hT2
      clear hT1 hT2
      go_wp2_with fail
      refine HF.out.mono ?_
      rintro e w3 ⟨v, rfl, h1, h2⟩
      obtain ⟨A4, c4, rfl, hc, hT⟩ := own_readsT h1 rfl
      have HB3 := Lib.hid (HB2.out.trans (h2.mono HB2.out.size)); have HT := Lib.hid hT
      have HTL := Lib.hid htl0
      have hc4 : (T.length : Int) ≤ c4 := by omega
      have htl : (T.length : Int) ≤ 1000 := by have := HTL.out; omega
      clear h1 h2 hc hT
      go_wp2
      go_loopw [12] (fun v12 wr => ∃ j : Nat, v12 = .int .i64 ((j : Int) + 1) ∧ Hid (Same w3 wr)) (fun v12 _ => T.length + 1 - (intOf v12).toNat)
      case atStart => exact ⟨0, rfl, Fr.refl _ _⟩
      case round =>
        obtain ⟨j, rfl, HS⟩ := hrel
        by_cases hj : (j : Int) + 1 < T.length
        · obtain ⟨b, o, rfl, hc⟩ := (HT.out.same (below_fr HS.out)).2 (by omega)
          obtain ⟨d0, d1, d2⟩ := hc (j + 1) (by omega)
          have hfar := HT1.out (j + 1) (by omega) (by omega)
          clear hc
          generalize T.getD (j + 1) (0, 0, 0) = t at *
          obtain ⟨t0, t1, t2⟩ := t
          simp only at d0 d1 d2 hfar
          by_cases hlen : 0 < t1
          · obtain rfl := hfar hlen
            clear hfar
            go_wp2
            go_roundw
            case rel => exact ⟨j + 1, by go_num, HS.out⟩
            case measure => simp [intOf]; omega
          · have hld : decide (0 < t1) = false := decide_eq_false hlen
            clear hfar hlen
            go_wp2
            go_roundw
            case rel => exact ⟨j + 1, by go_num, HS.out⟩
            case measure => simp [intOf]; omega
        · have hB4 := HB3.out.trans ((below_fr HS.out).mono HB3.out.size)
          have HB4 := Lib.hid hB4
          have hT4 := HT.out.same (below_fr HS.out)
          clear hB4
          -- what the run's second token is
          have hrun : (5 < i ∧ 2 ≤ T.length ∧ ∃ b o M1, A4 = some ⟨b, o, none⟩ ∧ wr.cell? ⟨b, o + 3 + 1, none⟩ = some (.int .i64 M1) ∧ ((258 < (i : Int) - 1 ∧ M1 = 258) ∨ ((i : Int) - 1 ≤ 258 ∧ M1 = (i : Int) - 1))) ∨ i ≤ 5 := by
            rcases Nat.lt_or_ge 5 i with h5 | h5
            · obtain ⟨g1, g2⟩ := HT2.out h5
              obtain ⟨b, o, e, hc⟩ := hT4.2 (by omega)
              refine .inl ⟨h5, g1, b, o, _, e, (hc 1 (by omega)).2.1, ?_⟩
              rcases Int.lt_or_le 258 ((i : Int) - 1) with h | h
              · exact .inl ⟨h, by omega⟩
              · exact .inr ⟨h, by omega⟩
            · exact .inr h5
          clear hT4
          rcases hrun with ⟨h5, g1, b, o, M1, rfl, cm, ⟨hM, rfl⟩ | ⟨hM, rfl⟩⟩ | h5
          all_goals
            first
              | (have g2 : decide ((T.length : Int) < 2) = false := decide_eq_false (by omega)
                 have g3 : decide (T.length < 2) = false := decide_eq_false (by omega)
                 have g4 : decide ((5 : Int) < (i : Int)) = true := decide_eq_true (by omega)
                 have g5 : (1 : Int) < (T.length : Int) := by omega
                 clear h5 g1)
              | (have g4 : decide ((5 : Int) < (i : Int)) = false := decide_eq_false (by omega)
                 clear h5)
            obtain ⟨wq, rfl⟩ : ∃ wq : World, wq = wr := ⟨_, rfl⟩
            by_cases hL4 : (L : Int) < 4
            · go_wp2
              go_ret
              exact ⟨rfl, HB4.out⟩
            by_cases hL2 : (200 : Int) < (L : Int)
            · go_wp2
              go_ret
              exact ⟨rfl, HB4.out⟩
            have e1 : decide ((L : Int) < 4) = false := decide_eq_false hL4
            have e2 : decide (L < 4) = false := decide_eq_false (by omega)
            have e3 : decide ((200 : Int) < (L : Int)) = false := decide_eq_false hL2
            have e4 : decide (200 < L) = false := decide_eq_false (by omega)
            have HL4 := Lib.hid (show 4 ≤ L by omega)
            have HL2 := Lib.hid (show L ≤ 200 by omega)
            have hLI : (L : Int) ≤ 200 := by omega
            have HRZ := Lib.hid (HLL.out ▸ HI.out.reads : Reads w .u8 a0 L zs)
            clear hL4 hL2
            go_wp2_with (first
              | (at_builtin; refine wpList_append_reads rfl (.tmp 78) (.tmp 79) 23 5 rfl Try.underlying23 info5 (.slice (some ⟨wq.heap.size, 0, none⟩) 0 0) 0 L cap0 a0 [] zs rfl rfl (World.ownsRow_made wq #[] 0 (Nat.zero_le _) (Nat.zero_le _) rfl) ((HRZ.out.same HB4.out).fr ((Fr.refl (fun _ => False) _).alloc _) (fun _ _ _ h => h)) (by have := HL2.out; omega) ?_; intro v5 w5 hown hfr hloc; rw [Nat.zero_add] at hown; obtain ⟨A5, k5, rfl⟩ := own_shape hown; have HO5 := Lib.hid hown; clear hown; have BF5 := Lib.hid (alloc_grown hfr); clear hfr; have HF5 := Lib.hid (from_alloc hloc); clear hloc)
              | (at_builtin; refine wpList_append_reads rfl (.tmp 80) (.tmp 81) 23 5 rfl Try.underlying23 info5 (.slice A5 L k5) L L cap0 a0 ([] ++ zs.map (Value.int .u8)) zs rfl rfl HO5.out (HRZ.out.same (HB4.out.trans (BF5.out.mono HB4.out.size))) (by have := HL2.out; omega) ?_; intro v6 w6 hown hfr hloc; have ho6 := hown; rw [List.nil_append, ← List.map_append] at ho6; obtain ⟨A6, k6, rfl, hr6, hc6⟩ := own_readsc ho6; have HR6 := Lib.hid hr6; have HC6 := Lib.hid hc6; clear hown ho6 hr6 hc6; have BF6 := Lib.hid (grown_from hfr BF5.out.size HF5.out); clear hfr hloc)
              | fail)
            have B6 := Lib.hid (HB4.out.trans ((BF5.out.trans BF6.out).mono HB4.out.size))
            have HF6 := Lib.hid (find_any A6 k6 (zs ++ zs) (L + L) w6 (by rw [List.length_append, HLL.out]) HR6.out (fun y hy => HI.out.wf y (by simpa using hy)) (by have := HL2.out; omega) HC6.out)
            have HBL : Hid ((zs ++ zs).length = L + L) := (by rw [List.length_append, HLL.out] : (zs ++ zs).length = L + L)
            have hbt := best_twice zs (by rw [HLL.out]; exact HL4.out) (by rw [HLL.out]; have := HL2.out; omega)
            rw [HLL.out] at hbt
            have HBT := Lib.hid hbt
            clear hbt
            obtain ⟨B, hB⟩ : ∃ B, zs ++ zs = B := ⟨_, rfl⟩
            rw [hB] at HBL HBT HF6
            clear hB
            refine HF6.out.mono ?_
            rintro e w7 ⟨v, rfl, h1, h2⟩
            obtain ⟨A7, c7, rfl, hc, hT⟩ := own_readsT h1 rfl
            have HB7 := Lib.hid (B6.out.trans (h2.mono B6.out.size)); have HT7 := Lib.hid hT
            have hml := find_len B
            rw [HBL.out] at hml
            have hmI : ((find B).length : Int) ≤ 400 := by have := HL2.out; omega
            have hcI : ((find B).length : Int) ≤ c7 := by omega
            have HM0 : Hid (find B = [] ++ toks B (L + L) 0) := (by rw [← HBL.out]; rfl : find B = [] ++ toks B (L + L) 0)
            clear h1 h2 hc hT hml
            generalize find B = M at *
            go_wp2
            go_loopw [15, 16] (fun v15 v16 wr => ∃ (p f : Nat) (pre : List Tok), v15 = .int .i64 p ∧ v16 = .int .i64 pre.length ∧ Hid (M = pre ++ toks B f p) ∧ Hid (L + L ≤ p + f) ∧ Hid (p ≤ L + L) ∧ Hid (Same w7 wr)) (fun _ v16 _ => M.length - (intOf v16).toNat)
            case atStart => exact ⟨0, L + L, [], rfl, rfl, HM0.out, (by omega : L + L ≤ 0 + (L + L)), Nat.zero_le _, Fr.refl _ _⟩
            case round =>
              obtain ⟨p, f, pre, rfl, rfl, HM, HPF, HPL, HS⟩ := hrel
              have HB8 := Lib.hid (HB7.out.trans ((below_fr HS.out).mono HB7.out.size))
              have hpI : (p : Int) ≤ 400 := by have := HPL.out; have := HL2.out; omega
              by_cases hi : (pre.length : Int) < (M.length : Int)
              · have hp : p < L + L := by
                  rcases Nat.lt_or_ge p (L + L) with h | h
                  · exact h
                  · have := HM.out
                    rw [toks_end B f p (by rw [HBL.out]; exact h), List.append_nil] at this
                    rw [this] at hi
                    omega
                obtain ⟨f', hf1, hf2⟩ := toks_more B f p (by rw [HBL.out]; exact hp) (by rw [HBL.out]; exact HPF.out)
                rw [HBL.out] at hf2
                have htok : M.getD pre.length (0, 0, 0) = tokAt B p := by
                  rw [HM.out, hf1, List.getD_eq_getElem?_getD, List.getElem?_append_right (Nat.le_refl _), Nat.sub_self]; rfl
                have hstep := Mx.step_end B p (by rw [HBL.out]; exact hp)
                rw [HBL.out] at hstep
                have hM2 : M = (pre ++ [tokAt B p]) ++ toks B f' (p + Mx.step B p) := by rw [HM.out, hf1]; simp
                have HM2 := Lib.hid hM2; have HF2 := Lib.hid hf2; have HSTEP := Lib.hid hstep
                clear hf1 hf2 hstep hM2
                obtain ⟨b7, o7, rfl, hc7⟩ := (HT7.out.same (below_fr HS.out)).2 (by omega)
                obtain ⟨d0, d1, d2⟩ := hc7 pre.length (by omega)
                rw [htok] at d0 d1 d2
                clear hc7 htok
                by_cases hpl : (p : Int) ≤ (L : Int)
                · by_cases heq : p = L
                  · subst heq
                    have h1 := HBT.out.1
                    have h2 := HBT.out.2
                    have h4 := HL4.out
                    have ht : tokAt B p = (0, ((best B p).1 : Int), ((best B p).2 : Int)) := by unfold tokAt; rw [if_neg (by omega)]
                    rw [ht, h1] at d0 d1 d2
                    have hfar : ((best B p).2 : Int) ≤ (p : Int) := by omega
                    generalize (best B p).2 = far at *
                    simp only at d0 d1 d2
                    clear h1 h2 h4 ht hp
                    go_wp2
                    go_ret
                    exact ⟨rfl, HB8.out⟩
                  · have hne : ((p : Int) == (L : Int)) = false := by rw [beq_eq_false_iff_ne]; omega
                    rcases tok_cases B p (by rw [HBL.out]; omega) with ⟨ht, hs, _⟩ | ⟨m, far, ht, hs, hm1, hm2, _⟩
                    · rw [ht] at d0 d1 d2
                      have HSS := Lib.hid hs; have HTT := Lib.hid ht
                      simp only at d0 d1 d2
                      clear hs ht heq hp
                      go_wp2
                      go_roundw
                      case rel =>
                        refine ⟨p + Mx.step B p, f', pre ++ [tokAt B p], by rw [HSS.out]; go_num, by rw [List.length_append]; simp, HM2.out, HF2.out, HSTEP.out, HS.out⟩
                      case measure => simp [intOf]; omega
                    · rw [ht] at d0 d1 d2
                      have HSS := Lib.hid hs; have HTT := Lib.hid ht
                      have hmm : (1 : Int) ≤ (m : Int) := by omega
                      have hmI2 : (m : Int) ≤ 258 := by omega
                      simp only at d0 d1 d2
                      clear hs ht heq hp hm1 hm2
                      go_wp2
                      go_roundw
                      case rel =>
                        refine ⟨p + Mx.step B p, f', pre ++ [tokAt B p], by rw [HSS.out]; go_num, by rw [List.length_append]; simp, HM2.out, HF2.out, HSTEP.out, HS.out⟩
                      case measure => simp [intOf]; omega
                · have hpd : decide ((p : Int) ≤ (L : Int)) = false := decide_eq_false hpl
                  have hpn : decide (p ≤ L) = false := decide_eq_false (by omega)
                  go_wp2
                  go_ret
                  exact ⟨rfl, HB8.out⟩
              · have hid : decide ((pre.length : Int) < (M.length : Int)) = false := decide_eq_false hi
                have hin : decide (pre.length < M.length) = false := decide_eq_false (by omega)
                go_wp2
                go_ret
                exact ⟨rfl, HB8.out⟩
theorem matchRuns_walk (w : World) (x : Int) (hx : 0 ≤ x ∧ x ≤ 255) (times : Int) (ht : 0 ≤ times ∧ times ≤ 65535) (a0 : Option Addr) (cap0 : Nat) (zs : List Int) (h : BytesIn w a0 cap0 zs) :
    Calls Try.prog 7 #[.int .u8 x, .int .u16 times, .slice a0 zs.length cap0] w fun e w' => e = .returned (.bool true) ∧ Below w.heap.size w w' := runs_any w x (WalkArith.wf_u8 hx) times ht a0 cap0 zs h
end Go.Proofs.Ytclamfdmgflofaa
