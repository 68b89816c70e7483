/- The walk of FilesTells. -/
import Derived.Test.YtlgonkopojancaaDoorFxTold2
namespace Go.Proofs.YtlgonkopojancaaDoor
open Go.RowKit

theorem find_kind (fs : List Fi) (nm : ByteArray) : ∃ (f : Fi) (B : Bool), fs.find? (fun g => decide (g.name = nm)) = (if B then some f else none) ∧ (B = false → f = default) ∧ (B = true → f ∈ fs) := by
  rcases h : fs.find? (fun g => decide (g.name = nm)) with _ | f
  · exact ⟨default, false, h, fun _ => rfl, fun h => Bool.noConfusion h⟩
  · exact ⟨f, true, h, fun h => Bool.noConfusion h, fun _ => List.mem_of_find?_eq_some h⟩
theorem bare_bts (fs : List Fi) : ∀ f ∈ fs.map Fi.bare, Bts f.body := fun f hf => by
  obtain ⟨g, _, rfl⟩ := List.mem_map.1 hf
  exact bts_nil
theorem nil_rd (w : World) : Rd w none 0 0 [] := ⟨⟨rfl, by decide, fun h => absurd h (by decide)⟩, Nat.le_refl _, by decide⟩

set_option maxRecDepth 20000 in
set_option maxHeartbeats 8000000 in
theorem filesTells_walk (w : World) (m : Int) (hm : w.cell? ⟨0, 0, none⟩ = some (.int .i64 m)) (A : Option Addr) (c : Nat) (fs : List Fi) (hF : Files w A fs.length c fs) (hok : ∀ f ∈ fs, FOk f) (nm : ByteArray) (hnm : nm.size ≤ maxLen) :
    Calls Tryd.prog 4 #[.slice A fs.length c, .string nm] w fun e w' => e = .returned (.bool true) ∧ Below w.heap.size w w' := by
  have HOK := Lib.hid hok
  have F0 : Hid (FRd w A fs.length fs) := hF.1
  have S0 := Lib.hid (St.refl hm)
  unfold maxLen at hnm
  have q0 : (nm.size : Int) ≤ 9223372036854775807 := by omega
  clear hm hF hok hnm
  obtain ⟨N, hN⟩ : ∃ N, fs.length = N := ⟨_, rfl⟩
  rw [hN] at F0 ⊢
  have HN := Lib.hid hN
  clear hN
  rcases hfew : fewB fs with _ | _
  · have HFEW := Lib.hid hfew; clear hfew
    go_enter Tryd.func4, Tryd.ntmps4
    go_wp2_with fail
    refine (awake_told S0.out).mono ?_
    rintro e w1 ⟨rfl, st, b⟩
    have S1 := Lib.hid st; have F1 := Lib.hid (F0.out.below b)
    clear st b
    go_wp2_with fail
    refine (few_told S1.out F1.out HOK.out HFEW.out).mono ?_
    rintro e w2 ⟨rfl, st, b⟩
    have S2 := Lib.hid st; have F2 := Lib.hid (F1.out.below b)
    clear st b
    go_wp2_with fail
    go_ret
    exact ⟨rfl, S2.out.bel⟩
  · have HFEW := Lib.hid hfew; clear hfew
    have HW := Lib.hid (few_ok HFEW.out)
    have n60 : (N : Int) ≤ 60 := by have := HW.out.1; have := HN.out; omega
    by_cases hl : (nm.size : Int) > 200
    · go_enter Tryd.func4, Tryd.ntmps4
      go_wp2_with fail
      refine (awake_told S0.out).mono ?_
      rintro e w1 ⟨rfl, st, b⟩
      have S1 := Lib.hid st; have F1 := Lib.hid (F0.out.below b)
      clear st b
      go_wp2_with fail
      refine (few_told S1.out F1.out HOK.out HFEW.out).mono ?_
      rintro e w2 ⟨rfl, st, b⟩
      have S2 := Lib.hid st; have F2 := Lib.hid (F1.out.below b)
      clear st b
      go_wp2_with fail
      go_ret
      exact ⟨rfl, S2.out.bel⟩
    · have hl2 : ¬ (200 : Int) < nm.size := hl
      obtain ⟨ck, hck⟩ : ∃ ck, checkI fs = ck := ⟨_, rfl⟩
      obtain ⟨f, Bf, hfd, hfd1, hfd2⟩ := find_kind fs nm
      obtain ⟨Nb, hNb⟩ : ∃ b, nameB nm = b := ⟨_, rfl⟩
      have hfb : Bts f.body := by
        rcases Bf with _ | _
        · rw [hfd1 rfl]; exact bts_nil
        · exact (HOK.out f (hfd2 rfl)).body
      have HCK := Lib.hid hck; have HFD := Lib.hid hfd; have HFD1 := Lib.hid hfd1; have HFB := Lib.hid hfb; have HNB := Lib.hid hNb
      clear hck hfd hfd1 hfd2 hfb hNb
      go_enter Tryd.func4, Tryd.ntmps4
      go_wp2_with fail
      refine (awake_told S0.out).mono ?_
      rintro e w1 ⟨rfl, st, b⟩
      have S1 := Lib.hid st; have F1 := Lib.hid (F0.out.below b)
      clear st b
      go_wp2_with fail
      refine (few_told S1.out F1.out HOK.out HFEW.out).mono ?_
      rintro e w2 ⟨rfl, st, b⟩
      have S2 := Lib.hid st; have F2 := Lib.hid (F1.out.below b)
      clear st b
      go_wp2_with fail
      by_cases h0 : ck = 0
      · subst h0
        refine (enc_told S2.out F2.out (by omega) HW.out.body HW.out.name HOK.out HCK.out).mono ?_
        rintro e w3 ⟨gs, A3, c3, rfl, hst, hr, st, b⟩
        obtain ⟨X, hX⟩ : ∃ X, encB gs = X := ⟨_, rfl⟩
        rw [hX] at hr ⊢
        have HX := Lib.hid hX; have HST := Lib.hid hst
        obtain ⟨E, hE⟩ : ∃ E, X.length = E := ⟨_, rfl⟩
        rw [hE] at hr ⊢
        have HE := Lib.hid hE
        have S3 := Lib.hid st; have F3 := Lib.hid (F2.out.below b); have X3 := Lib.hid hr
        clear st b hst hr hX hE
        go_wp2_with fail
        refine (renc_told S3.out F3.out (by omega) HW.out.body HW.out.name HOK.out HCK.out).mono ?_
        rintro e w4 ⟨gs', A4, c4, rfl, hst, hr, st, b⟩
        obtain rfl : gs = gs' := stable_unique HST.out hst
        rw [HX.out, HE.out] at hr ⊢
        have S4 := Lib.hid st; have F4 := Lib.hid (F3.out.below b); have X4 := Lib.hid (X3.out.below b); have Y4 := Lib.hid hr
        clear st b hst hr
        go_wp2_with fail
        refine (sort_told S4.out F4.out (by omega) HW.out.body).mono ?_
        rintro e w5 ⟨g1, A5, c5, rfl, hst1, hf, st, b⟩
        have S5 := Lib.hid st; have F5 := Lib.hid (F4.out.below b); have X5 := Lib.hid (X4.out.below b); have Y5 := Lib.hid (Y4.out.below b); have P5 := Lib.hid hf; have HT1 := Lib.hid hst1
        clear st b hf hst1
        go_wp2_with fail
        refine (rsort_told S5.out F5.out (by omega)).mono ?_
        rintro e w6 ⟨g2, A6, c6, rfl, hst2, hf, st, b⟩
        obtain rfl : g1 = g2 := stable_unique HT1.out hst2
        have S6 := Lib.hid st; have F6 := Lib.hid (F5.out.below b); have X6 := Lib.hid (X5.out.below b); have Y6 := Lib.hid (Y5.out.below b); have P6 := Lib.hid (P5.out.below b); have Q6 := Lib.hid hf
        clear st b hf hst2
        go_wp2_with fail
        refine (same_told (B := true) S6.out P6.out Q6.out (stable_ok HT1.out fun f h => (HOK.out f h).body) (stable_ok HT1.out fun f h => (HOK.out f h).body) (decide_eq_true rfl)).mono ?_
        rintro e w7 ⟨rfl, st, b⟩
        have S7 := Lib.hid st; have F7 := Lib.hid (F6.out.below b); have X7 := Lib.hid (X6.out.below b); have Y7 := Lib.hid (Y6.out.below b)
        clear st b
        go_wp2_with fail
        refine (listF_told S7.out F7.out (by omega)).mono ?_
        rintro e w8 ⟨A8, c8, rfl, hf, st, b⟩
        have S8 := Lib.hid st; have F8 := Lib.hid (F7.out.below b); have X8 := Lib.hid (X7.out.below b); have Y8 := Lib.hid (Y7.out.below b); have P8 := Lib.hid hf
        clear st b hf
        go_wp2_with fail
        refine (rlist_told S8.out F8.out (by omega)).mono ?_
        rintro e w9 ⟨A9, c9, rfl, hf, st, b⟩
        have S9 := Lib.hid st; have F9 := Lib.hid (F8.out.below b); have X9 := Lib.hid (X8.out.below b); have Y9 := Lib.hid (Y8.out.below b); have P9 := Lib.hid (P8.out.below b); have Q9 := Lib.hid hf
        clear st b hf
        go_wp2_with fail
        refine (same_told (B := true) S9.out P9.out Q9.out (bare_bts fs) (bare_bts fs) (decide_eq_true rfl)).mono ?_
        rintro e wa ⟨rfl, st, b⟩
        have Sa := Lib.hid st; have Fa := Lib.hid (F9.out.below b); have Xa := Lib.hid (X9.out.below b); have Ya := Lib.hid (Y9.out.below b)
        clear st b
        go_wp2_with fail
        refine (findB_told Sa.out (find_any fs A N c nm wa Fa.out (fun f h => by have := HW.out.body f h; omega)) HFD.out HFD1.out).mono ?_
        rintro e wb ⟨Ab, nb, cb, rfl, hr, st, b⟩
        have Sb := Lib.hid st; have Fb := Lib.hid (Fa.out.below b); have Xb := Lib.hid (Xa.out.below b); have Yb := Lib.hid (Ya.out.below b); have Rb := Lib.hid hr
        clear st b hr
        unfold fval
        go_wp2_with fail
        obtain ⟨Wb, hWb⟩ : ∃ W, wb.alloc (.cells #[.string f.name, .int .u32 f.mode, .int .i64 f.time, .slice Ab nb cb] 33) = W := ⟨_, rfl⟩
        obtain ⟨hb, hhb⟩ : ∃ h, wb.heap.size = h := ⟨_, rfl⟩
        have hsm : Same wb Wb := by rw [← hWb]; exact (Fr.refl _ wb).alloc _
        have hblk : Wb.heap[hb]? = some (.cells #[.string f.name, .int .u32 f.mode, .int .i64 f.time, .slice Ab nb cb] 33 (0, 0)) := by rw [← hWb, ← hhb]; exact blk_new wb _
        rw [hWb, hhb]
        have Sc := Lib.hid (Sb.out.step (below_same hsm)); have Fc := Lib.hid (Fb.out.below (below_same hsm)); have Xc := Lib.hid (Xb.out.below (below_same hsm)); have Yc := Lib.hid (Yb.out.below (below_same hsm)); have Rc := Lib.hid (Rb.out.same (below_same hsm)); have Kc := Lib.hid hblk
        clear hsm hblk hWb hhb
        refine (findB_told Sc.out (rfind_any fs A N c nm Wb Fc.out) HFD.out HFD1.out).mono ?_
        rintro e wd ⟨Ad, nd, cd, rfl, hr, st, b⟩
        have Sd := Lib.hid st; have Fd := Lib.hid (Fc.out.below b); have Xd := Lib.hid (Xc.out.below b); have Yd := Lib.hid (Yc.out.below b); have Rd1 := Lib.hid (Rc.out.same b); have Rd2 := Lib.hid hr; have Kd := Lib.hid ((b.block hb (blk_lt Kc.out)).trans Kc.out)
        clear st b hr
        unfold fval
        have j0 := fun o : Obj => blk_alloc Kd.out o
        obtain ⟨We, hWe⟩ : ∃ W, wd.alloc (.cells #[.string f.name, .int .u32 f.mode, .int .i64 f.time, .slice Ad nd cd] 33) = W := ⟨_, rfl⟩
        obtain ⟨he, hhe⟩ : ∃ h, wd.heap.size = h := ⟨_, rfl⟩
        have hsm : Same wd We := by rw [← hWe]; exact (Fr.refl _ wd).alloc _
        have hblk : We.heap[he]? = some (.cells #[.string f.name, .int .u32 f.mode, .int .i64 f.time, .slice Ad nd cd] 33 (0, 0)) := by rw [← hWe, ← hhe]; exact blk_new wd _
        have hblk2 : We.heap[hb]? = some (.cells #[.string f.name, .int .u32 f.mode, .int .i64 f.time, .slice Ab nb cb] 33 (0, 0)) := by rw [← hWe]; exact j0 _
        have y0 : We.cell? ⟨he, 0, none⟩ = some (.string f.name) := by rw [blk_cell hblk]; rfl
        have y1 : We.cell? ⟨he, 1, none⟩ = some (.int .u32 f.mode) := by rw [blk_cell hblk]; rfl
        have y2 : We.cell? ⟨he, 2, none⟩ = some (.int .i64 f.time) := by rw [blk_cell hblk]; rfl
        have y3 : We.cell? ⟨he, 3, none⟩ = some (.slice Ad nd cd) := by rw [blk_cell hblk]; rfl
        have x0 : We.cell? ⟨hb, 0, none⟩ = some (.string f.name) := by rw [blk_cell hblk2]; rfl
        have x1 : We.cell? ⟨hb, 1, none⟩ = some (.int .u32 f.mode) := by rw [blk_cell hblk2]; rfl
        have x2 : We.cell? ⟨hb, 2, none⟩ = some (.int .i64 f.time) := by rw [blk_cell hblk2]; rfl
        have x3 : We.cell? ⟨hb, 3, none⟩ = some (.slice Ab nb cb) := by rw [blk_cell hblk2]; rfl
        have Se := Lib.hid (Sd.out.step (below_same hsm)); have Fe := Lib.hid (Fd.out.below (below_same hsm)); have Xe := Lib.hid (Xd.out.below (below_same hsm)); have Ye := Lib.hid (Yd.out.below (below_same hsm)); have Re1 := Lib.hid (Rd1.out.same (below_same hsm)); have Re2 := Lib.hid (Rd2.out.same (below_same hsm))
        clear hsm hblk hblk2 j0
        go_upto_region 10 with fail
        clear hWe hhe
        go_wp2_with fail
        clear x0 x1 x2 x3 y0 y1 y2 y3
        refine (one_told Se.out Re1.out Re2.out HFB.out).mono ?_
        rintro e wf ⟨rfl, st, b⟩
        have Sf := Lib.hid st; have Ff := Lib.hid (Fe.out.below b)
        have z1 := conv_reads (c := c3) (Xe.out.below b).1
        have z2 := conv_reads (c := c4) (Ye.out.below b).1
        clear st b
        go_wp2_with fail
        clear z1 z2
        refine (check_told Sf.out Ff.out (by omega) HW.out.body HOK.out HCK.out).mono ?_
        rintro e wg ⟨rfl, st, b⟩
        have Sg := Lib.hid st; have Fg := Lib.hid (Ff.out.below b)
        clear st b
        go_wp2_with fail
        refine (rcheck_told Sg.out Fg.out (by omega) HW.out.body HOK.out HCK.out).mono ?_
        rintro e wh ⟨rfl, st, b⟩
        have Sh := Lib.hid st
        clear st b
        go_wp2_with fail
        refine (nameS_told Sh.out (by omega) HNB.out).mono ?_
        rintro e wi ⟨rfl, st, b⟩
        have Si := Lib.hid st
        clear st b
        go_wp2_with fail
        refine (rname_told Si.out (by omega) HNB.out).mono ?_
        rintro e wj ⟨rfl, st, b⟩
        have Sj := Lib.hid st
        clear st b
        go_wp2_with fail
        go_ret
        exact ⟨ret_bool (by simp), Sj.out.bel⟩
      · have hce : (ck == ck) = true := beq_self_eq_true ck
        refine (enc_err S2.out F2.out HW.out HOK.out HCK.out h0).mono ?_
        rintro e w3 ⟨rfl, st, b⟩
        have S3 := Lib.hid st; have F3 := Lib.hid (F2.out.below b)
        clear st b
        go_wp2_with fail
        refine (renc_err S3.out F3.out (by omega) HW.out.body HW.out.name HOK.out HCK.out h0).mono ?_
        rintro e w4 ⟨rfl, st, b⟩
        have S4 := Lib.hid st; have F4 := Lib.hid (F3.out.below b); have X4 := Lib.hid (nil_rd w4); have Y4 := Lib.hid (nil_rd w4)
        clear st b
        go_wp2_with fail
        refine (sort_told S4.out F4.out (by omega) HW.out.body).mono ?_
        rintro e w5 ⟨g1, A5, c5, rfl, hst1, hf, st, b⟩
        have S5 := Lib.hid st; have F5 := Lib.hid (F4.out.below b); have X5 := Lib.hid (X4.out.below b); have Y5 := Lib.hid (Y4.out.below b); have P5 := Lib.hid hf; have HT1 := Lib.hid hst1
        clear st b hf hst1
        go_wp2_with fail
        refine (rsort_told S5.out F5.out (by omega)).mono ?_
        rintro e w6 ⟨g2, A6, c6, rfl, hst2, hf, st, b⟩
        obtain rfl : g1 = g2 := stable_unique HT1.out hst2
        have S6 := Lib.hid st; have F6 := Lib.hid (F5.out.below b); have X6 := Lib.hid (X5.out.below b); have Y6 := Lib.hid (Y5.out.below b); have P6 := Lib.hid (P5.out.below b); have Q6 := Lib.hid hf
        clear st b hf hst2
        go_wp2_with fail
        refine (same_told (B := true) S6.out P6.out Q6.out (stable_ok HT1.out fun f h => (HOK.out f h).body) (stable_ok HT1.out fun f h => (HOK.out f h).body) (decide_eq_true rfl)).mono ?_
        rintro e w7 ⟨rfl, st, b⟩
        have S7 := Lib.hid st; have F7 := Lib.hid (F6.out.below b); have X7 := Lib.hid (X6.out.below b); have Y7 := Lib.hid (Y6.out.below b)
        clear st b
        go_wp2_with fail
        refine (listF_told S7.out F7.out (by omega)).mono ?_
        rintro e w8 ⟨A8, c8, rfl, hf, st, b⟩
        have S8 := Lib.hid st; have F8 := Lib.hid (F7.out.below b); have X8 := Lib.hid (X7.out.below b); have Y8 := Lib.hid (Y7.out.below b); have P8 := Lib.hid hf
        clear st b hf
        go_wp2_with fail
        refine (rlist_told S8.out F8.out (by omega)).mono ?_
        rintro e w9 ⟨A9, c9, rfl, hf, st, b⟩
        have S9 := Lib.hid st; have F9 := Lib.hid (F8.out.below b); have X9 := Lib.hid (X8.out.below b); have Y9 := Lib.hid (Y8.out.below b); have P9 := Lib.hid (P8.out.below b); have Q9 := Lib.hid hf
        clear st b hf
        go_wp2_with fail
        refine (same_told (B := true) S9.out P9.out Q9.out (bare_bts fs) (bare_bts fs) (decide_eq_true rfl)).mono ?_
        rintro e wa ⟨rfl, st, b⟩
        have Sa := Lib.hid st; have Fa := Lib.hid (F9.out.below b); have Xa := Lib.hid (X9.out.below b); have Ya := Lib.hid (Y9.out.below b)
        clear st b
        go_wp2_with fail
        refine (findB_told Sa.out (find_any fs A N c nm wa Fa.out (fun f h => by have := HW.out.body f h; omega)) HFD.out HFD1.out).mono ?_
        rintro e wb ⟨Ab, nb, cb, rfl, hr, st, b⟩
        have Sb := Lib.hid st; have Fb := Lib.hid (Fa.out.below b); have Xb := Lib.hid (Xa.out.below b); have Yb := Lib.hid (Ya.out.below b); have Rb := Lib.hid hr
        clear st b hr
        unfold fval
        go_wp2_with fail
        obtain ⟨Wb, hWb⟩ : ∃ W, wb.alloc (.cells #[.string f.name, .int .u32 f.mode, .int .i64 f.time, .slice Ab nb cb] 33) = W := ⟨_, rfl⟩
        obtain ⟨hb, hhb⟩ : ∃ h, wb.heap.size = h := ⟨_, rfl⟩
        have hsm : Same wb Wb := by rw [← hWb]; exact (Fr.refl _ wb).alloc _
        have hblk : Wb.heap[hb]? = some (.cells #[.string f.name, .int .u32 f.mode, .int .i64 f.time, .slice Ab nb cb] 33 (0, 0)) := by rw [← hWb, ← hhb]; exact blk_new wb _
        rw [hWb, hhb]
        have Sc := Lib.hid (Sb.out.step (below_same hsm)); have Fc := Lib.hid (Fb.out.below (below_same hsm)); have Xc := Lib.hid (Xb.out.below (below_same hsm)); have Yc := Lib.hid (Yb.out.below (below_same hsm)); have Rc := Lib.hid (Rb.out.same (below_same hsm)); have Kc := Lib.hid hblk
        clear hsm hblk hWb hhb
        refine (findB_told Sc.out (rfind_any fs A N c nm Wb Fc.out) HFD.out HFD1.out).mono ?_
        rintro e wd ⟨Ad, nd, cd, rfl, hr, st, b⟩
        have Sd := Lib.hid st; have Fd := Lib.hid (Fc.out.below b); have Xd := Lib.hid (Xc.out.below b); have Yd := Lib.hid (Yc.out.below b); have Rd1 := Lib.hid (Rc.out.same b); have Rd2 := Lib.hid hr; have Kd := Lib.hid ((b.block hb (blk_lt Kc.out)).trans Kc.out)
        clear st b hr
        unfold fval
        have j0 := fun o : Obj => blk_alloc Kd.out o
        obtain ⟨We, hWe⟩ : ∃ W, wd.alloc (.cells #[.string f.name, .int .u32 f.mode, .int .i64 f.time, .slice Ad nd cd] 33) = W := ⟨_, rfl⟩
        obtain ⟨he, hhe⟩ : ∃ h, wd.heap.size = h := ⟨_, rfl⟩
        have hsm : Same wd We := by rw [← hWe]; exact (Fr.refl _ wd).alloc _
        have hblk : We.heap[he]? = some (.cells #[.string f.name, .int .u32 f.mode, .int .i64 f.time, .slice Ad nd cd] 33 (0, 0)) := by rw [← hWe, ← hhe]; exact blk_new wd _
        have hblk2 : We.heap[hb]? = some (.cells #[.string f.name, .int .u32 f.mode, .int .i64 f.time, .slice Ab nb cb] 33 (0, 0)) := by rw [← hWe]; exact j0 _
        have y0 : We.cell? ⟨he, 0, none⟩ = some (.string f.name) := by rw [blk_cell hblk]; rfl
        have y1 : We.cell? ⟨he, 1, none⟩ = some (.int .u32 f.mode) := by rw [blk_cell hblk]; rfl
        have y2 : We.cell? ⟨he, 2, none⟩ = some (.int .i64 f.time) := by rw [blk_cell hblk]; rfl
        have y3 : We.cell? ⟨he, 3, none⟩ = some (.slice Ad nd cd) := by rw [blk_cell hblk]; rfl
        have x0 : We.cell? ⟨hb, 0, none⟩ = some (.string f.name) := by rw [blk_cell hblk2]; rfl
        have x1 : We.cell? ⟨hb, 1, none⟩ = some (.int .u32 f.mode) := by rw [blk_cell hblk2]; rfl
        have x2 : We.cell? ⟨hb, 2, none⟩ = some (.int .i64 f.time) := by rw [blk_cell hblk2]; rfl
        have x3 : We.cell? ⟨hb, 3, none⟩ = some (.slice Ab nb cb) := by rw [blk_cell hblk2]; rfl
        have Se := Lib.hid (Sd.out.step (below_same hsm)); have Fe := Lib.hid (Fd.out.below (below_same hsm)); have Xe := Lib.hid (Xd.out.below (below_same hsm)); have Ye := Lib.hid (Yd.out.below (below_same hsm)); have Re1 := Lib.hid (Rd1.out.same (below_same hsm)); have Re2 := Lib.hid (Rd2.out.same (below_same hsm))
        clear hsm hblk hblk2 j0
        go_upto_region 10 with fail
        clear hWe hhe
        go_wp2_with fail
        clear x0 x1 x2 x3 y0 y1 y2 y3
        refine (one_told Se.out Re1.out Re2.out HFB.out).mono ?_
        rintro e wf ⟨rfl, st, b⟩
        have Sf := Lib.hid st; have Ff := Lib.hid (Fe.out.below b)
        have z1 := conv_reads (c := 0) (Xe.out.below b).1
        have z2 := conv_reads (c := 0) (Ye.out.below b).1
        clear st b
        go_wp2_with fail
        clear z1 z2
        refine (check_told Sf.out Ff.out (by omega) HW.out.body HOK.out HCK.out).mono ?_
        rintro e wg ⟨rfl, st, b⟩
        have Sg := Lib.hid st; have Fg := Lib.hid (Ff.out.below b)
        clear st b
        go_wp2_with fail
        refine (rcheck_told Sg.out Fg.out (by omega) HW.out.body HOK.out HCK.out).mono ?_
        rintro e wh ⟨rfl, st, b⟩
        have Sh := Lib.hid st
        clear st b
        go_wp2_with fail
        refine (nameS_told Sh.out (by omega) HNB.out).mono ?_
        rintro e wi ⟨rfl, st, b⟩
        have Si := Lib.hid st
        clear st b
        go_wp2_with fail
        refine (rname_told Si.out (by omega) HNB.out).mono ?_
        rintro e wj ⟨rfl, st, b⟩
        have Sj := Lib.hid st
        clear st b
        go_wp2_with fail
        go_ret
        exact ⟨ret_bool (by simp), Sj.out.bel⟩
end Go.Proofs.YtlgonkopojancaaDoor
