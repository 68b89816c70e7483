/- The walk of FilesFinds. -/
import Derived.Test.YtlgonkopojancaaDoorFxTold
import Derived.Test.YtlgonkopojancaaDoorFxBR
import Derived.BigQuiet
namespace Go.Proofs.YtlgonkopojancaaDoor
open Go.RowKit

def thereB (fs : List Fi) (nm : ByteArray) (i : Nat) : Bool := (fs.take i).any (fun f => decide (f.name = nm))
theorem there_step {fs : List Fi} {nm : ByteArray} {i : Nat} (h : i < fs.length) : thereB fs nm (i + 1) = (thereB fs nm i || decide ((fs.getD i default).name = nm)) := by
  unfold thereB
  rw [List.take_succ_eq_append_getElem h, List.any_append, getD_eq h]
  simp
theorem there_end {fs gs : List Fi} {nm : ByteArray} {i : Nat} (p : gs.Perm fs) (h : fs.length ≤ i) : thereB fs nm i = (gs.find? (fun f => decide (f.name = nm))).isSome := by
  unfold thereB
  rw [List.take_of_length_le h, Bool.eq_iff_iff, List.any_eq_true, List.find?_isSome]
  simp only [decide_eq_true_eq]
  exact ⟨fun ⟨f, hf, e⟩ => ⟨f, p.mem_iff.2 hf, e⟩, fun ⟨f, hf, e⟩ => ⟨f, p.mem_iff.1 hf, e⟩⟩
theorem find_some {w0 w : World} {m : Int} {gs : List Fi} {A : Option Addr} {n c : Nat} {nm : ByteArray} {f : Fi} (st : St w0 m w) (hg : FRd w A n gs) (hb : ∀ f ∈ gs, f.body.length ≤ 140737488355328) (h : gs.find? (fun g => decide (g.name = nm)) = some f) :
    Calls Tryd.prog 20 #[.slice A n c, .string nm] w fun e w' => ∃ A' n' c', e = .returned (.tuple #[fval f A' n' c', .bool true]) ∧ Reads w' .u8 A' n' f.body ∧ St w0 m w' ∧ Below w.heap.size w w' :=
  (find_any gs A n c nm w hg hb).mono fun _ _ ⟨hp, b⟩ => by
    unfold FindPost at hp
    rw [h] at hp
    obtain ⟨A', n', c', e, hr⟩ := hp
    exact ⟨A', n', c', e, hr, st.step b, b⟩
theorem find_none {w0 w : World} {m : Int} {gs : List Fi} {A : Option Addr} {n c : Nat} {nm : ByteArray} (st : St w0 m w) (hg : FRd w A n gs) (hb : ∀ f ∈ gs, f.body.length ≤ 140737488355328) (h : gs.find? (fun g => decide (g.name = nm)) = none) :
    Calls Tryd.prog 20 #[.slice A n c, .string nm] w fun e w' => e = .returned (.tuple #[fval default none 0 0, .bool false]) ∧ St w0 m w' ∧ Below w.heap.size w w' :=
  (find_any gs A n c nm w hg hb).mono fun _ _ ⟨hp, b⟩ => by
    unfold FindPost at hp
    rw [h] at hp
    exact ⟨hp, st.step b, b⟩
theorem list_told {w0 w : World} {m : Int} {gs : List Fi} {A : Option Addr} {n c : Nat} (st : St w0 m w) (hg : FRd w A n gs) (hn : n ≤ 1000000) :
    Calls Tryd.prog 18 #[.slice A n c] w fun e w' => ∃ A' c', e = .returned (.slice A' n c') ∧ VRd w' A' n (gs.map bareV) ∧ St w0 m w' ∧ Below w.heap.size w w' :=
  (list_any gs A n c w hg hn).mono fun _ _ ⟨v, h, ho, _, b⟩ => by
    subst h
    obtain ⟨A', c', rfl, hv⟩ := own_vrd ho (by omega)
    exact ⟨A', c', rfl, hv, st.step b, b⟩
theorem bare_load {w : World} {A : Option Addr} {n j : Nat} {gs : List Fi} (h : VRd w A n (gs.map bareV)) (hj : j < n) : ∃ b o, A = some ⟨b, o, none⟩ ∧ ∀ w', Same w w' →
    w'.cell? ⟨b, o + j * 4, none⟩ = some (.string (gs.getD j default).name) ∧ w'.cell? ⟨b, o + j * 4 + 1, none⟩ = some (.int .u32 (gs.getD j default).mode) ∧ w'.cell? ⟨b, o + j * 4 + 2, none⟩ = some (.int .i64 (gs.getD j default).time) ∧ w'.cell? ⟨b, o + j * 4 + 3, none⟩ = some (.slice none 0 0) := by
  obtain ⟨b, o, e, hc⟩ := h.2.2 (by omega)
  have hl : j < gs.length := by have := h.1; rw [List.length_map] at this; omega
  have hg : ((gs.map bareV).getD j default) = bareV (gs.getD j default) := by
    rw [getD_eq (by rw [List.length_map]; exact hl), getD_eq hl, List.getElem_map]
  have hq := hc j hj
  rw [hg] at hq
  exact ⟨b, o, e, fun w' s => ⟨s.cell (hq 0 _ rfl) (fun e => e), s.cell (hq 1 _ rfl) (fun e => e), s.cell (hq 2 _ rfl) (fun e => e), s.cell (hq 3 _ rfl) (fun e => e)⟩⟩
/-- a file's four cells, wherever nothing below was written -/
theorem file_range {w : World} {A : Option Addr} {n j : Nat} {fs : List Fi} (h : FRd w A n fs) (hj : j < n) : ∃ b o A' n' c', A = some ⟨b, o, none⟩ ∧ Reads w .u8 A' n' (fs.getD j default).body ∧ ∀ w', Below w.heap.size w w' → w'.rangeAt b (o + j * 4) (fcells (fs.getD j default) A' n' c') := by
  obtain ⟨b, o, A', n', c', e, hr, hl⟩ := h.load hj
  refine ⟨b, o, A', n', c', e, hr, fun w' hb => ?_⟩
  obtain ⟨h0, h1, h2, h3⟩ := hl w' hb
  intro i u hu
  unfold fcells at hu
  match i, hu with
  | 0, hu => simp at hu; subst hu; exact h0
  | 1, hu => simp at hu; subst hu; exact h1
  | 2, hu => simp at hu; subst hu; exact h2
  | 3, hu => simp at hu; subst hu; exact h3
  | k + 4, hu => simp at hu
theorem new_range (w w' : World) (cs : List Value) (t : TypeId) (s : Below (w.alloc (.cells cs.toArray t)).heap.size (w.alloc (.cells cs.toArray t)) w') : w'.rangeAt w.heap.size 0 cs := by
  intro i u hu
  have h1 : (w.alloc (.cells cs.toArray t)).cell? ⟨w.heap.size, 0 + i, none⟩ = some u := by
    rw [Nat.zero_add, blk_cell (blk_new w _)]
    simpa using hu
  exact (s.cell (World.block_lt_of_cell? _ _ h1)).trans h1

set_option maxRecDepth 20000 in
set_option maxHeartbeats 8000000 in
theorem filesFinds_walk (w : World) (m : Int) (hm : w.cell? ⟨0, 0, none⟩ = some (.int .i64 m)) (A : Option Addr) (c : Nat) (fs : List Fi) (hF : Files w A fs.length c fs) (hok : ∀ f ∈ fs, FOk f) (nm : ByteArray) (hnm : nm.size ≤ maxLen) :
    Calls Tryd.prog 9 #[.slice A fs.length c, .string nm] w fun e w' => e = .returned (.bool true) ∧ Below w.heap.size w w' := by
  have HOK := Lib.hid hok
  have F0 : Hid (FRd w A fs.length fs) := hF.1
  have S0 := Lib.hid (St.refl hm)
  unfold maxLen at hnm
  have q0 : (nm.size : Int) ≤ 9223372036854775807 := by omega
  clear hm hF hok hnm
  obtain ⟨N, hN⟩ : ∃ N, fs.length = N := ⟨_, rfl⟩
  rw [hN] at F0 ⊢
  have HN := Lib.hid hN
  clear hN
  rcases hfew : fewB fs with _ | _
  · have HFEW := Lib.hid hfew; clear hfew
    go_enter Tryd.func9, Tryd.ntmps9
    go_wp2_with fail
    refine (awake_told S0.out).mono ?_
    rintro e w1 ⟨rfl, st, b⟩
    have S1 := Lib.hid st; have F1 := Lib.hid (F0.out.below b)
    clear st b
    go_wp2_with fail
    refine (few_told S1.out F1.out HOK.out HFEW.out).mono ?_
    rintro e w2 ⟨rfl, st, b⟩
    have S2 := Lib.hid st; have F2 := Lib.hid (F1.out.below b)
    clear st b
    go_wp2_with fail
    go_ret
    exact ⟨rfl, S2.out.bel⟩
  · have HFEW := Lib.hid hfew; clear hfew
    have HW := Lib.hid (few_ok HFEW.out)
    have n60 : (N : Int) ≤ 60 := by have := HW.out.1; have := HN.out; omega
    by_cases hl : (nm.size : Int) > 200
    · go_enter Tryd.func9, Tryd.ntmps9
      go_wp2_with fail
      refine (awake_told S0.out).mono ?_
      rintro e w1 ⟨rfl, st, b⟩
      have S1 := Lib.hid st; have F1 := Lib.hid (F0.out.below b)
      clear st b
      go_wp2_with fail
      refine (few_told S1.out F1.out HOK.out HFEW.out).mono ?_
      rintro e w2 ⟨rfl, st, b⟩
      have S2 := Lib.hid st; have F2 := Lib.hid (F1.out.below b)
      clear st b
      go_wp2_with fail
      go_ret
      exact ⟨rfl, S2.out.bel⟩
    · have hl2 : ¬ (200 : Int) < nm.size := hl
      obtain ⟨ck, hck⟩ : ∃ ck, checkI fs = ck := ⟨_, rfl⟩
      have HCK := Lib.hid hck; clear hck
      by_cases h0 : ck = 0
      · subst h0
        go_enter Tryd.func9, Tryd.ntmps9
        go_wp2_with fail
        refine (awake_told S0.out).mono ?_
        rintro e w1 ⟨rfl, st, b⟩
        have S1 := Lib.hid st; have F1 := Lib.hid (F0.out.below b)
        clear st b
        go_wp2_with fail
        refine (few_told S1.out F1.out HOK.out HFEW.out).mono ?_
        rintro e w2 ⟨rfl, st, b⟩
        have S2 := Lib.hid st; have F2 := Lib.hid (F1.out.below b)
        clear st b
        go_wp2_with fail
        refine (check_told S2.out F2.out (by omega) HW.out.body HOK.out HCK.out).mono ?_
        rintro e w3 ⟨rfl, st, b⟩
        have S3 := Lib.hid st; have F3 := Lib.hid (F2.out.below b)
        clear st b
        go_wp2_with fail
        refine (enc_told S3.out F3.out (by omega) HW.out.body HW.out.name HOK.out HCK.out).mono ?_
        rintro e w4 ⟨gs, A4, c4, rfl, hst, hr, st, b⟩
        obtain ⟨hd, hbt, hln⟩ := decP_sorted HW.out HOK.out HCK.out hst
        obtain ⟨E, hE⟩ : ∃ E, (encB gs).length = E := ⟨_, rfl⟩
        rw [hE] at hr hln ⊢
        have HP := Lib.hid (stable_perm hst)
        have S4 := Lib.hid st; have F4 := Lib.hid (F3.out.below b)
        have HR := Lib.hid hr; have HD := Lib.hid hd; have HBT := Lib.hid hbt; have HLN := Lib.hid hln
        clear st b hst hr hd hbt hln hE
        go_wp2_with fail
        refine (dec_told S4.out HR.out HBT.out (by have := HLN.out; omega) HD.out (by have := (HW.out.perm HP.out).1; omega)).mono ?_
        rintro e w5 ⟨A5, c5, rfl, hf, st, b⟩
        have hgl : gs.length = N := by rw [HP.out.length_eq]; exact HN.out
        rw [hgl] at hf ⊢
        have S5 := Lib.hid st; have F5 := Lib.hid (F4.out.below b); have G5 := Lib.hid hf
        have HBG : Hid (∀ f ∈ gs, f.body.length ≤ 140737488355328) := (fun f hf => by have := HW.out.body f (HP.out.mem_iff.1 hf); omega : ∀ f ∈ gs, f.body.length ≤ 140737488355328)
        have HND : Hid ((gs.map Fi.name).Nodup) := ((HP.out.map _).nodup_iff.2 (check_parts HCK.out).2.1 : (gs.map Fi.name).Nodup)
        clear st b hf hgl
        clear S0 S1 S2 S3 S4 F0 F1 F2 F3 F4 HR HD HBT HLN HCK HFEW
        go_wp2_with fail
        go_loopw [10, 11, 12, 13, 14] (fun v10 v11 _ _ _ wr => ∃ (i : Nat) (tb : Bool), v10 = .bool tb ∧ v11 = .int .i64 i ∧ Hid (thereB fs nm i = tb) ∧ Hid (St w m wr) ∧ Hid (FRd wr A N fs) ∧ Hid (FRd wr A5 N gs)) (fun _ v11 _ _ _ _ => N - (intOf v11).toNat)
        case atStart => exact ⟨0, false, rfl, rfl, rfl, S5.out, F5.out, G5.out⟩
        case round =>
          obtain ⟨i, tb, rfl, rfl, HTB, SR, FR, GR⟩ := hrel
          by_cases hi : (i : Int) < N
          · obtain ⟨b, o, Aa, na, ca, hA, hr, hrg⟩ := file_range FR.out (j := i) (by omega)
            subst hA
            obtain ⟨f, hf⟩ : ∃ f, fs.getD i default = f := ⟨_, rfl⟩
            rw [hf] at hr hrg
            have hmem : f ∈ fs := by
              rw [← hf, getD_eq (by rw [HN.out]; omega)]
              exact List.getElem_mem _
            have HRG := Lib.hid hrg; have HR1 := Lib.hid hr; have HF := Lib.hid hf; have HMEM := Lib.hid hmem
            have k0 : wr.cell? ⟨b, o + i * 4, none⟩ = some (.string f.name) := HRG.out wr (Below.refl _ _) 0 _ rfl
            have HFND := Lib.hid (find_in HND.out (HP.out.mem_iff.2 hmem))
            clear hr hrg hf hmem
            go_wp2_with fail
            refine (find_some SR.out GR.out HBG.out HFND.out).mono ?_
            rintro e w6 ⟨Ab, nb, cb, rfl, hr, st, b6⟩
            have S6 := Lib.hid st; have HB6 := Lib.hid b6; have HR2 := Lib.hid hr
            clear st b6 hr k0
            unfold fval
            go_wp2_with fail
            obtain ⟨W, hW⟩ : ∃ W, w6.alloc (.cells #[.string f.name, .int .u32 f.mode, .int .i64 f.time, .slice Ab nb cb] 33) = W := ⟨_, rfl⟩
            obtain ⟨h, hh⟩ : ∃ h, w6.heap.size = h := ⟨_, rfl⟩
            have hsame : Same w6 W := by rw [← hW]; exact (Fr.refl _ w6).alloc _
            have hnew : ∀ w', Below W.heap.size W w' → w'.rangeAt h 0 (fcells f Ab nb cb) := by
              intro w' s
              rw [← hW] at s
              rw [← hh]
              exact new_range w6 w' (fcells f Ab nb cb) 33 s
            have hbw : Below wr.heap.size wr W := HB6.out.trans ((below_same hsame).mono HB6.out.size)
            have HNEW := Lib.hid hnew; have HBW := Lib.hid hbw
            have HRA := Lib.hid (HR1.out.same hbw); have HRB := Lib.hid (HR2.out.same (below_same hsame)); have SW := Lib.hid (S6.out.step (below_same hsame))
            rw [hW, hh]
            clear hW hh hsame hnew hbw
            refine wp_region_held_drew (S := fun w' => w'.rangeAt h 0 (fcells f Ab nb cb) ∧ w'.rangeAt b (o + i * 4) (fcells f Aa na ca)) (by kernel_rfl) (by exact ⟨HNEW.out _ (below_same (Fr.refl _ W).drew), HRG.out _ (HBW.out.trans ((below_same (Fr.refl _ W).drew).mono HBW.out.size))⟩) (fun hHeld => ?_)
            refine wpAnyH_take (i := 1) (v := ?vf1) (idx_of_drop rfl) (by kernel_rfl) (by kernel_rfl) (by kernel_rfl) (fun _ _ _ h => h) (Or.inl ⟨by rfl, ?yf1⟩) (by assumption) ?rf1
            case yf1 => (intro w hSw; go_simp <;> with_reducible rfl)
            (try simp only [Act.put, List.setIfInBounds_toArray, List.set_cons_zero, List.set_cons_succ])
            refine wpAnyH_take (i := 2) (v := ?vf2) (idx_of_drop rfl) (by kernel_rfl) (by kernel_rfl) (by kernel_rfl) (fun _ _ _ h => h) (Or.inl ⟨by rfl, ?yf2⟩) (by assumption) ?rf2
            case yf2 => (intro w hSw; go_simp <;> with_reducible rfl)
            (try simp only [Act.put, List.setIfInBounds_toArray, List.set_cons_zero, List.set_cons_succ])
            refine wpAnyH_take (i := 3) (v := ?vf3) (idx_of_drop rfl) (by kernel_rfl) (by kernel_rfl) (by kernel_rfl) (fun _ _ _ h => h) (Or.inl ⟨by rfl, ?yf3⟩) (by assumption) ?rf3
            case yf3 => (intro w hSw; go_simp <;> with_reducible rfl)
            (try simp only [Act.put, List.setIfInBounds_toArray, List.set_cons_zero, List.set_cons_succ])
            refine wpAnyH_take (i := 0) (v := .agg (fcells f Ab nb cb).toArray) (idx_of_drop rfl) (by kernel_rfl) (by kernel_rfl) (by kernel_rfl) (fun _ _ _ h => h) (yieldsIf_load_mid (by rfl) 33 (.tmp 12) rfl h 0 (by rfl) (fcells f Ab nb cb) _ (fun w hw => hw.1) Tryd.underlying33 rfl info33s) (by assumption) ?rf4
            (try simp only [Act.put, List.setIfInBounds_toArray, List.set_cons_zero, List.set_cons_succ])
            refine wpAnyH_take (i := 4) (v := .agg (fcells f Aa na ca).toArray) (idx_of_drop rfl) (by kernel_rfl) (by kernel_rfl) (by kernel_rfl) (fun _ _ _ h => h) (yieldsIf_load_mid (by rfl) 33 (.tmp 76) rfl b (o + i * 4) (by rfl) (fcells f Aa na ca) _ (fun w hw => hw.2) Tryd.underlying33 rfl info33s) (by assumption) ?rf5
            (try simp only [Act.put, List.setIfInBounds_toArray, List.set_cons_zero, List.set_cons_succ])
            refine wpAnyH_ready (rs := [5]) (by kernel_rfl) (by simp) ?_
            refine AllReadyH.cons (idx_of_drop rfl) (fun K hK => ?sf6) ?mf6
            case sf6 =>
              go_simp
              refine (one_any f f Ab nb cb Aa na ca W.drew HRB.out HRA.out (HOK.out f HMEM.out).body (HOK.out f HMEM.out).body).mono ?_
              rintro e wc ⟨rfl, hb⟩
              have HBC : Hid (Below W.heap.size W wc) := (below_same (Fr.refl _ W).drew).trans hb
              clear hb
              rw [decide_eq_true (rfl : f = f)]
              refine hK.out _ _ ⟨HNEW.out _ HBC.out, HRG.out _ (HBW.out.trans (HBC.out.mono HBW.out.size))⟩ (fun hHeld => ?_)
              clear hK K
              (try simp only [Act.put, List.setIfInBounds_toArray, List.set_cons_zero, List.set_cons_succ])
              refine wpAnyH_take (i := 6) (v := ?vf7) (idx_of_drop rfl) (by kernel_rfl) (by kernel_rfl) (by kernel_rfl) (fun _ _ _ h => h) (Or.inl ⟨by rfl, ?yf7⟩) (by assumption) ?rf7
              case yf7 => (intro w hSw; go_simp <;> with_reducible rfl)
              (try simp only [Act.put, List.setIfInBounds_toArray, List.set_cons_zero, List.set_cons_succ])
              refine wpAnyH_done (by kernel_rfl) ?_ _
              rename_i hH; clear hH
              have SC := Lib.hid (SW.out.step HBC.out)
              have hbc : Below wr.heap.size wr wc := HBW.out.trans (HBC.out.mono HBW.out.size)
              have FC := Lib.hid (FR.out.below hbc); have GC := Lib.hid (GR.out.below hbc)
              have k1 : wc.cell? ⟨b, o + i * 4, none⟩ = some (.string f.name) := HRG.out wc hbc 0 _ rfl
              have HTS := Lib.hid (there_step (nm := nm) (fs := fs) (i := i) (by rw [HN.out]; omega))
              obtain ⟨sn, hsn⟩ : ∃ s, f.name = s := ⟨_, rfl⟩
              have HF2 : Hid ((fs.getD i default).name = sn) := (by rw [HF.out, hsn] : (fs.getD i default).name = sn)
              rw [hsn] at k1
              clear hbc hsn
              rcases tb with _ | _
              · by_cases hsn : sn = nm
                · subst hsn
                  go_wp2_with fail
                  go_roundw
                  case rel => exact ⟨i + 1, true, rfl, by go_num, (by rw [HTS.out, HTB.out, HF2.out]; simp : thereB fs sn (i + 1) = true), SC.out, FC.out, GC.out⟩
                  case measure => simp [intOf]; omega
                · have h5 : ¬ sn.toList = nm.toList := fun e => hsn (bytes_ext _ _ (by rw [← ByteArray.toList_eq, ← ByteArray.toList_eq, e]))
                  have HSN : Hid (¬ sn = nm) := hsn
                  clear hsn
                  go_wp2_with fail
                  go_roundw
                  case rel => exact ⟨i + 1, false, by rw [show (sn.toList == nm.toList) = false from beq_eq_false_iff_ne.2 h5], by go_num, (by rw [HTS.out, HTB.out, HF2.out]; simpa using HSN.out : thereB fs nm (i + 1) = false), SC.out, FC.out, GC.out⟩
                  case measure => simp [intOf]; omega
              · go_wp2_with fail
                go_roundw
                case rel => exact ⟨i + 1, true, rfl, by go_num, (by rw [HTS.out, HTB.out]; rfl : thereB fs nm (i + 1) = true), SC.out, FC.out, GC.out⟩
                case measure => simp [intOf]; omega
            exact AllReadyH.nil
          · have HTE := Lib.hid (HTB.out.symm.trans (there_end (i := i) HP.out (by rw [HN.out]; omega)))
            clear S5 F5 G5
            rcases hfd : gs.find? (fun g => decide (g.name = nm)) with _ | f
            · have HFD := Lib.hid hfd
              have htb : tb = false := by have := HTE.out; rw [hfd] at this; exact this
              subst htb
              clear hfd
              go_wp2_with fail
              refine (find_none SR.out GR.out HBG.out HFD.out).mono ?_
              rintro e w6 ⟨rfl, st, b6⟩
              have S6 := Lib.hid st; have G6 := Lib.hid (GR.out.below b6)
              clear st b6
              unfold fval
              go_wp2_with fail
              refine (list_told (S6.out.step (below_same ((Fr.refl _ w6).alloc _))) (G6.out.below (below_same ((Fr.refl _ w6).alloc _))) (by omega)).mono ?_
              rintro e w7 ⟨A7, c7, rfl, hv, st, b7⟩
              have S7 := Lib.hid st; have G7 := Lib.hid ((G6.out.below (below_same ((Fr.refl _ w6).alloc _))).below b7); have V7 := Lib.hid hv
              clear st b7 hv S6 G6 SR FR GR
              go_wp2_with fail
              go_loopw [18] (fun v18 wr => ∃ i : Nat, v18 = .int .i64 i ∧ Hid (Same w7 wr)) (fun v18 _ => N - (intOf v18).toNat)
              case atStart => exact ⟨0, rfl, Fr.refl _ _⟩
              case round =>
                obtain ⟨j, rfl, HSM⟩ := hrel
                by_cases hj : (j : Int) < N
                · obtain ⟨b1, o1, e1, hl1⟩ := bare_load V7.out (j := j) (by omega)
                  obtain ⟨b2, o2, Ac, nc, cc, e2, _, hl2⟩ := G7.out.load (j := j) (by omega)
                  subst e1; subst e2
                  obtain ⟨k0, k1, k2, k3⟩ := hl1 wr HSM.out
                  obtain ⟨l0, l1, l2, l3⟩ := hl2 wr (below_same HSM.out)
                  obtain ⟨f', hf'⟩ : ∃ f, gs.getD j default = f := ⟨_, rfl⟩
                  rw [hf'] at k0 k1 k2 l0 l1 l2
                  clear hl1 hl2 hf'
                  go_wp2_with fail
                  go_quiet (fail)
                  go_wp2_with fail
                  go_roundw
                  case rel => exact ⟨j + 1, by go_num, HSM.out.drewN _⟩
                  case measure => simp [intOf]; omega
                · go_wp2_with fail
                  go_ret
                  exact ⟨rfl, S7.out.bel.trans (HSM.out.below _ S7.out.bel.size (fun _ _ e => e))⟩
            · have HFD := Lib.hid hfd
              have htb : tb = true := by have := HTE.out; rw [hfd] at this; exact this
              subst htb
              clear hfd
              go_wp2_with fail
              refine (find_some SR.out GR.out HBG.out HFD.out).mono ?_
              rintro e w6 ⟨Ab, nb, cb, rfl, _, st, b6⟩
              have S6 := Lib.hid st; have G6 := Lib.hid (GR.out.below b6)
              clear st b6
              unfold fval
              go_wp2_with fail
              refine (list_told (S6.out.step (below_same ((Fr.refl _ w6).alloc _))) (G6.out.below (below_same ((Fr.refl _ w6).alloc _))) (by omega)).mono ?_
              rintro e w7 ⟨A7, c7, rfl, hv, st, b7⟩
              have S7 := Lib.hid st; have G7 := Lib.hid ((G6.out.below (below_same ((Fr.refl _ w6).alloc _))).below b7); have V7 := Lib.hid hv
              clear st b7 hv S6 G6 SR FR GR
              go_wp2_with fail
              go_loopw [18] (fun v18 wr => ∃ i : Nat, v18 = .int .i64 i ∧ Hid (Same w7 wr)) (fun v18 _ => N - (intOf v18).toNat)
              case atStart => exact ⟨0, rfl, Fr.refl _ _⟩
              case round =>
                obtain ⟨j, rfl, HSM⟩ := hrel
                by_cases hj : (j : Int) < N
                · obtain ⟨b1, o1, e1, hl1⟩ := bare_load V7.out (j := j) (by omega)
                  obtain ⟨b2, o2, Ac, nc, cc, e2, _, hl2⟩ := G7.out.load (j := j) (by omega)
                  subst e1; subst e2
                  obtain ⟨k0, k1, k2, k3⟩ := hl1 wr HSM.out
                  obtain ⟨l0, l1, l2, l3⟩ := hl2 wr (below_same HSM.out)
                  obtain ⟨f', hf'⟩ : ∃ f, gs.getD j default = f := ⟨_, rfl⟩
                  rw [hf'] at k0 k1 k2 l0 l1 l2
                  clear hl1 hl2 hf'
                  go_wp2_with fail
                  go_quiet (fail)
                  go_wp2_with fail
                  go_roundw
                  case rel => exact ⟨j + 1, by go_num, HSM.out.drewN _⟩
                  case measure => simp [intOf]; omega
                · go_wp2_with fail
                  go_ret
                  exact ⟨rfl, S7.out.bel.trans (HSM.out.below _ S7.out.bel.size (fun _ _ e => e))⟩
      · have hne : (ck != 0) = true := by simpa using h0
        go_enter Tryd.func9, Tryd.ntmps9
        go_wp2_with fail
        refine (awake_told S0.out).mono ?_
        rintro e w1 ⟨rfl, st, b⟩
        have S1 := Lib.hid st; have F1 := Lib.hid (F0.out.below b)
        clear st b
        go_wp2_with fail
        refine (few_told S1.out F1.out HOK.out HFEW.out).mono ?_
        rintro e w2 ⟨rfl, st, b⟩
        have S2 := Lib.hid st; have F2 := Lib.hid (F1.out.below b)
        clear st b
        go_wp2_with fail
        refine (check_told S2.out F2.out (by omega) HW.out.body HOK.out HCK.out).mono ?_
        rintro e w3 ⟨rfl, st, b⟩
        have S3 := Lib.hid st
        clear st b
        go_wp2_with fail
        go_ret
        exact ⟨rfl, S3.out.bel⟩
end Go.Proofs.YtlgonkopojancaaDoor
