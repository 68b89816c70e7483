/- The walk of the finder's best. -/
import Derived.Test.YtclamfdmgflofaaMxFin
namespace Go.Proofs.Ytclamfdmgflofaa
open Go.RowKit
open Mx

theorem best_short (b : List Int) (i : Nat) (h : b.length < i + 4) (hi : i ≤ b.length) : best b i = (0, 0) := by
  rw [best_is, best4_skip b i 0 i (Nat.zero_le _) (fun j _ _ h4 => by have := lng_len b i (i - j) hi; omega)]
  rfl
theorem best_none (b : List Int) (i : Nat) (hi : i ≤ b.length) (h : prev b i i < 0) : best b i = (0, 0) := by
  have := prev_lt b i i
  rw [best_is, best4_next b i 0 i (by omega) i (by omega) hi]
  rfl

theorem ret_c {x y : Nat} (h : x = 0) (g : y = 0) : Ending.returned (.complex .f64 0 0) = .returned (.complex .f64 x y) := by rw [h, g]
theorem below_drewN {B : Nat} {w w' : World} (h : Below B w w') (n : Nat) : Below B w (w'.drewN n) := ⟨h.os, h.tape, h.output, h.size, h.block⟩
theorem key0 : keyOf Try.prog 50 (.agg #[.int .u8 0, .int .u8 0, .int .u8 0, .int .u8 0]) = some (.string (keyBytes [.int .u8 0, .int .u8 0, .int .u8 0, .int .u8 0])) := key_of (by decide) (by decide) (by decide) (by decide)
theorem Fin.lookup0 {w : World} {g : Nat} {A : Option Addr} {c : Nat} {b : List Int} {n BM BK i : Nat} (h : Fin w g A c b n BM BK i) {w' : World} {S : Nat → Prop} (f : Fr S w w') (hS : ¬ S BM) :
    ∃ z q, ∀ o m, (Instr.lookup 40 (.map (some BM)) (.agg #[.int .u8 0, .int .u8 0, .int .u8 0, .int .u8 0]) true).run Try.prog ((w'.alloc o).drewN m) = .ok (.tuple #[.int .i64 z, .bool q]) ((w'.alloc o).drewN m) := by
  obtain ⟨D, k, _, hm, hok⟩ := h.map
  obtain ⟨z, hz⟩ : ∃ z, D.atKey (.string (keyBytes [.int .u8 0, .int .u8 0, .int .u8 0, .int .u8 0])) (.lit (.int .i64 0)) = .lit (.int .i64 z) := by
    obtain ⟨v, ps, hrun, hv⟩ := hm.look_ok law50 Try.underlying40 (zero3 w) (plainElem_int Try.underlying3 (by decide)) key0
    obtain ⟨z, rfl, hz, _⟩ := plainElem_int_inv Try.underlying3 hv
    exact ⟨z, congrArg Prod.fst hz⟩
  refine ⟨z, Maps.has D (.string (keyBytes [.int .u8 0, .int .u8 0, .int .u8 0, .int .u8 0])), fun o m => ?_⟩
  have hm' : ((w'.alloc o).drewN m).ownsMap Try.prog 50 (plainElem Try.prog 3) BM k D := by
    obtain ⟨es, clock, hb, r⟩ := hm
    exact ⟨es, clock, (f.alloc o).blk hb hS, r⟩
  obtain ⟨v, ps, hrun, hv⟩ := hm'.look_ok law50 Try.underlying40 (zero3 _) (plainElem_int Try.underlying3 (by decide)) key0
  rw [hz] at hv
  obtain ⟨z', rfl, hz', _⟩ := plainElem_int_inv Try.underlying3 hv
  simp only [Prod.mk.injEq, DataW.lit.injEq, Lit.int.injEq, true_and] at hz'
  rw [hrun, hz'.1]

set_option maxRecDepth 20000 in
set_option maxHeartbeats 2000000 in
theorem best_out (g : Nat) (A : Option Addr) (c : Nat) (b : List Int) (n BM BK i : Nat) (w : World) (hf : Fin w g A c b n BM BK i) (hl : n ≤ 2000) (hi : i ≤ n) (h : n < i + 4) :
    Calls Try.prog 18 #[.pointer (some ⟨g, 0, none⟩), .int .i64 i] w fun e w' => e = .returned (.complex .f64 0 0) ∧ Below w.heap.size w w' := by
  have c0 := blk_cell hf.blk 0
  have hg := blk_lt hf.blk
  have HF := Lib.hid hf; clear hf
  have HC := Lib.hid (four_out g A c i n w c0 (by omega) hi h)
  go_enter Try.func18, Try.ntmps18
  go_wp2
  go_step3
  go_wp2_with (go_at_call 21; refine HC.out.mono ?_; rintro e w3 ⟨rfl, h3⟩; have H3 := Lib.hid h3; have hg3 := Nat.lt_of_lt_of_le hg h3.size; have d1 := (h3.cell (p := ⟨g, 1, none⟩) hg).trans (blk_cell HF.out.blk 1); obtain ⟨z, q, hlk⟩ := HF.out.lookup0 (Fr.of_below h3) (fun h => h); clear h3)
  go_quiet (fail)
  go_wp2
  rw [Exit.noGoto_ret]
  go_ret
  exact ⟨rfl, below_drewN (H3.out.alloc H3.out.size _) _⟩

def BestJ (g : Nat) (b : List Int) (i : Nat) (w0 : World) (a : Act) (w : World) : Prop :=
  ∃ (u : Nat → Value) (k : Nat) (f : Int), a = { tmps := #[.pointer (some ⟨g, 0, none⟩), .int .i64 i, undef, undef, .complex .f64 (floatOfInt .f64 ((best4 b i k).1 : Int)) (floatOfInt .f64 ((best4 b i k).2 : Int)), u 5, u 6, .int .i64 f, u 8, u 9, u 10, u 11, u 12, u 13, u 14, u 15, u 16, u 17, u 18, u 19, u 20, u 21, u 22, u 23, u 24, u 25, u 26, u 27, u 28, u 29, u 30, u 31, u 32, u 33, u 34, u 35, u 36, u 37, u 38, u 39, u 40, u 41, u 42, u 43, u 44, u 45, u 46, u 47, u 48, u 49, u 50, u 51, u 52, u 53, u 54, u 55, u 56, u 57, u 58, u 59, u 60, u 61, u 62, u 63, u 64, u 65, u 66, u 67], defers := [] } ∧
    f = (i : Int) - 1 - k ∧ k ≤ i ∧ (0 ≤ f → eq4 b f.toNat i) ∧ Below w0.heap.size w0 w

def BestMu (a : Act) (_ : World) : Nat := (intOf (a.tmps.getD 7 undef) + 1).toNat

theorem bestJ_act {g : Nat} {b : List Int} {i k : Nat} {f : Int} {w0 w : World} {x1 x2 : Nat} {u5 u6 u8 u9 u10 u11 u12 u13 u14 u15 u16 u17 u18 u19 u20 u21 u22 u23 u24 u25 u26 u27 u28 u29 u30 u31 u32 u33 u34 u35 u36 u37 u38 u39 u40 u41 u42 u43 u44 u45 u46 u47 u48 u49 u50 u51 u52 u53 u54 u55 u56 u57 u58 u59 u60 u61 u62 u63 u64 u65 u66 u67 : Value} (h1 : x1 = floatOfInt .f64 ((best4 b i k).1 : Int)) (h2 : x2 = floatOfInt .f64 ((best4 b i k).2 : Int)) (hf : f = (i : Int) - 1 - k) (hk : k ≤ i) (he : 0 ≤ f → eq4 b f.toNat i) (hw : Below w0.heap.size w0 w) :
    BestJ g b i w0 { tmps := #[.pointer (some ⟨g, 0, none⟩), .int .i64 i, undef, undef, .complex .f64 x1 x2, u5, u6, .int .i64 f, u8, u9, u10, u11, u12, u13, u14, u15, u16, u17, u18, u19, u20, u21, u22, u23, u24, u25, u26, u27, u28, u29, u30, u31, u32, u33, u34, u35, u36, u37, u38, u39, u40, u41, u42, u43, u44, u45, u46, u47, u48, u49, u50, u51, u52, u53, u54, u55, u56, u57, u58, u59, u60, u61, u62, u63, u64, u65, u66, u67], defers := [] } w :=
  ⟨fun j => #[undef, undef, undef, undef, undef, u5, u6, undef, u8, u9, u10, u11, u12, u13, u14, u15, u16, u17, u18, u19, u20, u21, u22, u23, u24, u25, u26, u27, u28, u29, u30, u31, u32, u33, u34, u35, u36, u37, u38, u39, u40, u41, u42, u43, u44, u45, u46, u47, u48, u49, u50, u51, u52, u53, u54, u55, u56, u57, u58, u59, u60, u61, u62, u63, u64, u65, u66, u67].getD j undef, k, f, by rw [h1, h2]; rfl, hf, hk, he, hw⟩

theorem best_some (b : List Int) (i : Nat) (p : Nat) (h : prev b i i = (p : Int)) (hi : i ≤ b.length) : p < i ∧ eq4 b p i ∧ best4 b i (i - 1 - p) = (0, 0) := by
  obtain ⟨h1, h2, h3⟩ := prev_hit b i i p h
  refine ⟨h1, h3, ?_⟩
  rw [best4_next b i 0 i (by omega) (i - 1 - p) (by omega) hi]
  rfl

set_option maxRecDepth 20000 in
set_option maxHeartbeats 4000000 in
theorem best_in (g : Nat) (A : Option Addr) (c : Nat) (b : List Int) (n BM BK i : Nat) (w : World) (hf : Fin w g A c b n BM BK i) (hb : ∀ x ∈ b, (Lit.int .u8 x).wf = true) (hl : n ≤ 2000) (hc : n ≤ c) (h : i + 4 ≤ n) :
    Calls Try.prog 18 #[.pointer (some ⟨g, 0, none⟩), .int .i64 i] w fun e w' => e = .returned (.complex .f64 (floatOfInt .f64 ((best b i).1 : Int)) (floatOfInt .f64 ((best b i).2 : Int))) ∧ Below w.heap.size w w' := by
  have c0 := blk_cell hf.blk 0
  have hg := blk_lt hf.blk
  have HF := Lib.hid hf; clear hf
  have HB := Lib.hid hb; clear hb
  have HC := Lib.hid (four_in g A c b i n w c0 HF.out.reads (by omega) hc h)
  obtain ⟨x0, x1, x2, x3, hk4⟩ : ∃ x0 x1 x2 x3, k4 b i = .agg #[.int .u8 x0, .int .u8 x1, .int .u8 x2, .int .u8 x3] := ⟨_, _, _, _, rfl⟩
  rw [hk4] at HC
  have HK := Lib.hid hk4; clear hk4
  have HL := Lib.hid hl; have HCC := Lib.hid hc; have HI := Lib.hid h; clear hl hc h
  by_cases hp : 0 ≤ prev b i i
  · obtain ⟨p, hpp⟩ := Int.eq_ofNat_of_zero_le hp
    have HPP := Lib.hid hpp
    have HS := Lib.hid (best_some b i p hpp (by rw [HF.out.len]; have := HI.out; omega))
    have HP := Lib.hid hp; clear hp hpp
    go_enter Try.func18, Try.ntmps18
    go_wp2
    refine wp_scope_loop 0 (BestJ g b i w) BestMu rfl ?pass ?first
    case first =>
      intro hp
      have HQ := Lib.hid hp; clear hp
      go_wp2_with (go_at_call 21; refine HC.out.mono ?_; rintro e w3 ⟨rfl, h3⟩; have H3 := Lib.hid h3; have hg3 := Nat.lt_of_lt_of_le hg h3.size; have d1 := (h3.cell (p := ⟨g, 1, none⟩) hg).trans (blk_cell HF.out.blk 1); have hlk := HF.out.lookupA HB.out i (Fr.of_below h3) (fun h => h); rw [HK.out, if_pos HP.out, decide_eq_true HP.out, HPP.out] at hlk; clear h3)
      go_quiet (fail)
      go_wp2
      go_step3
      simp only [Exit.then]
      rename_i hK
      refine hK _ _ (HQ.out _ _ ?_)
      obtain ⟨hs1, hs2, hs3⟩ := HS.out
      refine bestJ_act (k := i - 1 - p) ?_ ?_ (by omega) (by omega) (fun _ => by rw [Int.toNat_natCast]; exact hs2) (below_drewN (H3.out.alloc H3.out.size _) _)
      · rw [hs3]; exact float0.symm
      · rw [hs3]; exact float0.symm
    case pass =>
      rintro a w1 ⟨u, k, f, rfl, hf, hk, he, hw⟩
      have HW := Lib.hid hw; clear hw
      have HE := Lib.hid he; clear he
      have HFE := Lib.hid hf; clear hf
      obtain ⟨r, hr⟩ : ∃ r, best4 b i k = r := ⟨_, rfl⟩
      rw [hr]
      have HR := Lib.hid hr; clear hr
      by_cases hf0 : f < 0
      · have HD : Hid (best b i = r) := (by
          have h1 := HFE.out
          rw [best_is, ← HR.out]
          congr 1
          omega : best b i = r)
        go_wp2
        simp only [Exit.jump]
        go_ret
        rw [HD.out]
        exact ⟨rfl, HW.out⟩
      · obtain ⟨q, rfl⟩ := Int.eq_ofNat_of_zero_le (show 0 ≤ f by omega)
        have hqi : q + (k + 1) = i := by have := HFE.out; omega
        have hlen : b.length = n := HF.out.len
        have heq : eq4 b q i := by have := HE.out (by omega); rwa [Int.toNat_natCast] at this
        have hr258 : r.1 ≤ 258 := by rw [← HR.out]; exact (best4_le b i k).1
        by_cases hr : r.1 = 258
        · have HD : Hid (best b i = r) := (by
            rw [best_is, best4_full b i k (by rw [HR.out]; exact hr) i hk, HR.out] : best b i = r)
          have hq : (FloatKind.f64.format.order (floatOfInt .f64 ((r.1 : Nat) : Int)) 4643246400191070208 == some .eq) = true := by rw [eq_258 r.1 (by omega)]; exact decide_eq_true hr
          have HQI := Lib.hid hqi
          have hd : (i : Int) - (q : Int) ≤ 65535 := by have := HL.out; have := HI.out; omega
          have hd0 : (q : Int) ≤ (i : Int) := by omega
          clear hr hr258 hqi hlen hk hf0
          have hf0 : decide ((q : Int) < 0) = false := decide_eq_false (by omega)
          go_wp2
          simp only [Exit.jump]
          go_ret
          rw [HD.out]
          exact ⟨rfl, HW.out⟩
        · have hq : (FloatKind.f64.format.order (floatOfInt .f64 ((r.1 : Nat) : Int)) 4643246400191070208 == some .eq) = false := by rw [eq_258 r.1 (by omega)]; exact decide_eq_false hr
          have HQI := Lib.hid hqi
          have hd : (i : Int) - (q : Int) ≤ 65535 := by have := HL.out; have := HI.out; omega
          have hd0 : (q : Int) ≤ (i : Int) := by omega
          obtain ⟨ln, hln⟩ : ∃ ln, lng b i q = ln := ⟨_, rfl⟩
          have hln258 : ln ≤ 258 := by rw [← hln]; exact lng_le b i q
          have hgt := gt_small ln r.1 (by omega) (by omega)
          have HH : Hid (best4 b i (k + 1) = if r.1 < ln then (ln, k + 1) else r) := (by
            have := best4_hit b i k (by rw [hlen]; exact HI.out) (by rw [show i - (k + 1) = q by omega]; exact heq)
            rw [HR.out, show i - (k + 1) = q by omega, hln] at this
            exact this : best4 b i (k + 1) = if r.1 < ln then (ln, k + 1) else r)
          obtain ⟨f', hf'⟩ : ∃ f', prev b i q = f' := ⟨_, rfl⟩
          have hprev := prev_lt b i q
          rw [hf'] at hprev
          have HNX : Hid (best4 b i (i - 1 - f').toNat = best4 b i (k + 1)) := (best4_next b i (k + 1) q (by omega) _ (by rw [hf']; omega) (by rw [hlen]; have := HI.out; omega) : best4 b i ((i : Int) - 1 - f').toNat = best4 b i (k + 1))
          have HEQ : Hid (0 ≤ f' → eq4 b f'.toNat i) := (fun h0 => by
            obtain ⟨t, rfl⟩ := Int.eq_ofNat_of_zero_le h0
            rw [Int.toNat_natCast]
            exact (prev_hit b i q t hf').2.2 : 0 ≤ f' → eq4 b f'.toNat i)
          have hLong := long_any g A c b i q n w1 hlen ((HW.out.cell (p := ⟨g, 0, none⟩) hg).trans c0) (HF.out.reads.same HW.out) (by have := HL.out; omega) (by have := HI.out; omega) (by omega)
          rw [hln] at hLong
          have HLG := Lib.hid hLong; clear hLong
          obtain ⟨cs, hcs, hcz, hck⟩ := HF.out.back
          have hbk := hck q (by omega) (by have := HI.out; omega)
          rw [prev_same heq, hf'] at hbk
          have HBK := Lib.hid ((HW.out.block BK (blk_lt hcs)).trans hcs); clear hcs
          have HBK2 := Lib.hid hbk; clear hbk
          have HG := Lib.hid ((HW.out.block g hg).trans HF.out.blk)
          have hqn : (q : Int) < (n : Int) := by have := HI.out; omega
          have HPV := Lib.hid hprev
          clear hr hr258 hqi hlen hk hf0 hln258 hln hf' hprev hck hcz heq
          have hf0 : decide ((q : Int) < 0) = false := decide_eq_false (by omega)
          by_cases hlt : r.1 < ln
          · have hgt2 : (FloatKind.f64.format.order (floatOfInt .f64 (ln : Int)) (floatOfInt .f64 (r.1 : Int)) == some .gt) = true := by rw [hgt]; exact decide_eq_true hlt
            have H1 := HH.out; rw [if_pos hlt] at H1
            have HH1 := Lib.hid H1
            clear H1 hgt hlt HH
            go_wp2_with (go_at_call 22; refine HLG.out.mono ?_; rintro e w2 ⟨rfl, h2⟩; have H2 := Lib.hid h2; have d2 := blk_cell (h2.blk HG.out (fun h => h)) 2; have dk := (blk_cell (h2.blk HBK.out (fun h => h)) q).trans HBK2.out; clear h2)
            go_step3
            have hp := HPV.out
            refine ⟨rfl, bestJ_act (k := (i - 1 - f').toNat) ?_ ?_ (by omega) (by have := HQI.out; omega) HEQ.out (HW.out.trans ((below_fr H2.out).mono HW.out.size)), ?_⟩
            · rw [HNX.out, HH1.out]
            · rw [HNX.out, HH1.out]
              congr 1
              have := HQI.out
              omega
            · simp [BestMu, intOf]
              omega
          · have hgt2 : (FloatKind.f64.format.order (floatOfInt .f64 (ln : Int)) (floatOfInt .f64 (r.1 : Int)) == some .gt) = false := by rw [hgt]; exact decide_eq_false hlt
            have H1 := HH.out; rw [if_neg hlt] at H1
            have HH1 := Lib.hid H1
            clear H1 hgt hlt HH
            go_wp2_with (go_at_call 22; refine HLG.out.mono ?_; rintro e w2 ⟨rfl, h2⟩; have H2 := Lib.hid h2; have d2 := blk_cell (h2.blk HG.out (fun h => h)) 2; have dk := (blk_cell (h2.blk HBK.out (fun h => h)) q).trans HBK2.out; clear h2)
            go_step3
            have hp := HPV.out
            refine ⟨rfl, bestJ_act (k := (i - 1 - f').toNat) ?_ ?_ (by omega) (by have := HQI.out; omega) HEQ.out (HW.out.trans ((below_fr H2.out).mono HW.out.size)), ?_⟩
            · rw [HNX.out, HH1.out]
            · rw [HNX.out, HH1.out]
            · simp [BestMu, intOf]
              omega
  · have HBN : Hid (best b i = (0, 0)) := (best_none b i (by rw [HF.out.len]; have := HI.out; omega) (by omega) : best b i = (0, 0))
    have HLK : Hid (∀ w3 : World, Below w.heap.size w w3 → ∀ o m, (Instr.lookup 40 (.map (some BM)) (.agg #[.int .u8 x0, .int .u8 x1, .int .u8 x2, .int .u8 x3]) true).run Try.prog ((w3.alloc o).drewN m) = .ok (.tuple #[.int .i64 0, .bool false]) ((w3.alloc o).drewN m)) := (fun w3 h3 o m => by
      have := HF.out.lookupA HB.out i (Fr.of_below h3) (fun h => h) o m
      rw [HK.out, if_neg hp, decide_eq_false hp] at this
      exact this : ∀ w3 : World, Below w.heap.size w w3 → ∀ o m, (Instr.lookup 40 (.map (some BM)) (.agg #[.int .u8 x0, .int .u8 x1, .int .u8 x2, .int .u8 x3]) true).run Try.prog ((w3.alloc o).drewN m) = .ok (.tuple #[.int .i64 0, .bool false]) ((w3.alloc o).drewN m))
    clear hp
    go_enter Try.func18, Try.ntmps18
    go_wp2
    go_step3
    go_wp2_with (go_at_call 21; refine HC.out.mono ?_; rintro e w3 ⟨rfl, h3⟩; have H3 := Lib.hid h3; have hg3 := Nat.lt_of_lt_of_le hg h3.size; have d1 := (h3.cell (p := ⟨g, 1, none⟩) hg).trans (blk_cell HF.out.blk 1); have hlk := HLK.out w3 h3; clear h3)
    go_quiet (fail)
    go_wp2
    rw [Exit.noGoto_ret]
    go_ret
    rw [HBN.out]
    exact ⟨ret_c float0 float0, below_drewN (H3.out.alloc H3.out.size _) _⟩
end Go.Proofs.Ytclamfdmgflofaa
