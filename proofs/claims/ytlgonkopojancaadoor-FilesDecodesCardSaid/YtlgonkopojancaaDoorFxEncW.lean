/- The walk of Encode. -/
import Derived.Test.YtlgonkopojancaaDoorFxEnc
namespace Go.Proofs.YtlgonkopojancaaDoor
open Go.RowKit

def EncPost (fs : List Fi) (B : Nat) (ck : Int) (e : Ending) (w' : World) : Prop :=
  (ck ≠ 0 → e = .returned (.tuple #[.slice none 0 0, .int .i64 ck])) ∧ (ck = 0 → ∃ v gs, e = .returned (.tuple #[v, .int .i64 0]) ∧ StableOf Fi.name fs gs ∧ w'.ownsRow 0 5 1 v (encB gs).length (bts (encB gs)) ∧ From B v)
theorem check_len {fs : List Fi} {n : Nat} (h : checkI fs = 0) (hn : fs.length = n) : n ≤ 200 := by
  unfold checkI at h
  split at h
  · split at h
    · cases h
    · rename_i h1
      simp only [Bool.or_eq_true, decide_eq_true_eq] at h1
      omega
  · cases h
set_option maxRecDepth 20000 in
set_option maxHeartbeats 4000000 in
theorem encode_any (fs : List Fi) (A : Option Addr) (n c : Nat) (m : Int) (w : World) (hm : w.cell? ⟨0, 0, none⟩ = some (.int .i64 m)) (hf : FRd w A n fs) (hn : n ≤ 1000000) (hst : n ≤ 200 → StableCalls n)
    (hok : ∀ f ∈ fs, FOk f) (hb : ∀ f ∈ fs, f.body.length ≤ 1000000) (hs : ∀ f ∈ fs, f.name.size ≤ 1000000) :
    Calls Tryd.prog 13 #[.slice A n c] w fun e w' => EncPost fs w.heap.size (checkI fs) e w' ∧ Below w.heap.size w w' := by
  have HF := Lib.hid hf; have HM := Lib.hid hm; have HST := Lib.hid hst; have HOK := Lib.hid hok; have HB := Lib.hid hb; have HS := Lib.hid hs
  have hck := check_any fs A n c m w hm hf (by omega) hb (fun f hf => by have := hs f hf; omega)
  have HCK := Lib.hid hck
  clear hf hm hst hok hb hs hck
  obtain ⟨ck, hcke⟩ : ∃ ck, checkI fs = ck := ⟨_, rfl⟩
  rw [hcke] at HCK
  rw [hcke]
  have HCE := Lib.hid hcke; clear hcke
  by_cases h0 : ck = 0
  · subst h0
    have hn200 : n ≤ 200 := check_len HCE.out HF.out.1
    go_enter Tryd.func13, Tryd.ntmps13
    go_wp2_with fail
    refine HCK.out.mono ?_
    rintro e w1 ⟨rfl, hb1⟩
    have HB1 := Lib.hid hb1; clear hb1
    go_wp2_with fail
    refine (sort_walk fs A n c w1 (HF.out.same HB1.out) (by omega) HB.out (HST.out hn200)).mono ?_
    rintro e w2 ⟨v, vs, rfl, ho2, hf2, hb2, hbod, hstab⟩
    obtain ⟨A2, c2, rfl⟩ := own_shape ho2
    obtain ⟨gs, hgs⟩ : ∃ gs, vs.map FV.f = gs := ⟨_, rfl⟩
    have hrd : FRd w2 A2 n gs := by
      obtain ⟨A', c', e, hv⟩ := own_vrd ho2 (by omega)
      injection e with e1 e2 e3
      subst e1
      rw [← hgs]
      exact hv.files hbod
    rw [hgs] at hstab
    have hmem : ∀ f ∈ gs, f ∈ fs := fun f hf => by
      have h1 : f ∈ gs.filter (fun x => decide (Fi.name x = Fi.name f)) := List.mem_filter.2 ⟨hf, by simp⟩
      rw [hstab.2 (Fi.name f)] at h1
      exact (List.mem_filter.1 h1).1
    have HB2 := Lib.hid (HB1.out.trans (hb2.mono HB1.out.size))
    have HRD := Lib.hid hrd; have HSTB := Lib.hid hstab; have HMEM := Lib.hid hmem
    have HGL : Hid (gs.length = n) := hrd.1
    clear ho2 hf2 hb2 hbod hstab hrd hmem hgs
    go_wp2_with fail
    refine (number_any (.slice none 0 0) [] n w2 (by omega) (World.ownsRow_nil _ _ _ _) (by simp)).mono ?_
    rintro e w3 ⟨v5, rfl, ho3, hg3⟩
    rw [List.nil_append] at ho3
    have hf3 : From w2.heap.size v5 := (From.none _ _ _).grew hg3 (Nat.le_refl _)
    have HO3 := Lib.hid ho3; have HF3 := Lib.hid hf3
    have HB3 := Lib.hid (hg3.below (From.none w2.heap.size 0 0) (Nat.le_refl _))
    clear ho3 hg3 hf3
    go_wp2_with fail
    go_loopw [5, 6, 8, 22] (fun u5 u6 _ u22 wr => ∃ k : Nat, u22 = .int .i64 k ∧ Hid (k ≤ n) ∧ Hid (wr.ownsRow 0 5 1 u5 (numb n ++ headsB (gs.take k)).length (bts (numb n ++ headsB (gs.take k)))) ∧ Hid (wr.ownsRow 0 5 1 u6 (bodiesB (gs.take k)).length (bts (bodiesB (gs.take k)))) ∧ Hid (∀ j, u5.ownBlock = some j → u6.ownBlock ≠ some j) ∧ Hid (From w2.heap.size u5) ∧ Hid (From w2.heap.size u6) ∧ Hid (Below w2.heap.size w2 wr)) (fun _ _ _ u22 _ => n - (intOf u22).toNat)
    case atStart =>
      refine ⟨0, rfl, Nat.zero_le _, ?_, World.ownsRow_nil _ _ _ _, ?_, HF3.out, From.none _ _ _, HB3.out⟩
      · show World.ownsRow _ _ _ _ _ _ _
        have := HO3.out
        rw [show numb n ++ headsB (gs.take 0) = numb n by simp [headsB]]
        exact this
      · exact fun j _ e => by simp [Value.ownBlock] at e
    case round =>
      obtain ⟨k, rfl, HK, HO5, HO6, HAP, HF5, HF6, HBL⟩ := hrel
      by_cases hk : (k : Int) < n
      · obtain ⟨b, o, A1, n1, c1, rfl, hr1, hc1⟩ := HRD.out.load (j := k) (by omega)
        have hst := hc1 wr HBL.out
        have hkl : k < gs.length := by have := HGL.out; omega
        have hmem : gs.getD k default ∈ fs := HMEM.out _ (by rw [List.getD_eq_getElem?_getD, List.getElem?_eq_getElem hkl]; exact List.getElem_mem _)
        have hfok := HOK.out _ hmem
        have hfb := HB.out _ hmem
        have hfs := HS.out _ hmem
        have hts := take_snoc hkl
        obtain ⟨f, hfe⟩ : ∃ f, gs.getD k default = f := ⟨_, rfl⟩
        rw [hfe] at hst hfok hfb hfs hts hr1
        obtain ⟨q0, q1, q2, q3⟩ := hst
        have HTS := Lib.hid hts; have HFB := Lib.hid hfb; have HFS := Lib.hid hfs; have HFOK := Lib.hid hfok; have HR1 := Lib.hid hr1
        clear hc1 hr1 hfe hmem hts hfb hfs hfok
        obtain ⟨L5, hL5⟩ : ∃ L, numb n ++ headsB (gs.take k) = L := ⟨_, rfl⟩
        obtain ⟨L6, hL6⟩ : ∃ L, bodiesB (gs.take k) = L := ⟨_, rfl⟩
        rw [hL5] at HO5
        rw [hL6] at HO6
        have HL5 := Lib.hid hL5; have HL6 := Lib.hid hL6; clear hL5 hL6
        have hgl : (gs.take k).length = k := by rw [List.length_take]; omega
        have hlen5 : L5.length ≤ 300000000 := by
          have h1 := headsB_len (gs.take k) (fun f hf => HOK.out f (HMEM.out f (List.mem_of_mem_take hf))) (fun f hf => HB.out f (HMEM.out f (List.mem_of_mem_take hf))) (fun f hf => HS.out f (HMEM.out f (List.mem_of_mem_take hf)))
          have h2 := numb64 (n := n) (by omega)
          rw [← HL5.out, List.length_append]
          omega
        have hlen6 : L6.length ≤ 300000000 := by
          have h1 := bodiesB_len (gs.take k) (fun f hf => HB.out f (HMEM.out f (List.mem_of_mem_take hf)))
          rw [← HL6.out]
          omega
        have HLN := Lib.hid (And.intro hlen5 hlen6); clear hlen5 hlen6 hgl hkl
        go_wp2_with fail
        obtain ⟨h, hh⟩ : ∃ h, wr.heap.size = h := ⟨_, rfl⟩
        obtain ⟨W0, hW0⟩ : ∃ W0, wr.alloc (.cells #[.string f.name, .int .u32 f.mode, .int .i64 f.time, .slice A1 n1 c1] 33) = W0 := ⟨_, rfl⟩
        have hsame : Same wr W0 := by rw [← hW0]; exact (Fr.refl _ wr).alloc _
        have t0 : Two w2.heap.size h W0 u5 u6 L5 L6 (fcells f A1 n1 c1).toArray := ⟨hsame.own HO5.out (fun _ _ e => e), hsame.own HO6.out (fun _ _ e => e), HAP.out, HF5.out, HF6.out, by have := HBL.out.size; omega, by rw [← hW0, ← hh]; exact blk_new wr _⟩
        rw [hW0, hh]
        have HW0 : Hid (Below w2.heap.size w2 W0) := HBL.out.trans ((below_fr hsame).mono HBL.out.size)
        have T0 := Lib.hid t0
        clear hsame t0 hW0 hh
        have hcs := T0.out.c
        go_region_held3 (fun w' => w'.cell? ⟨h, 0, none⟩ = some (.string f.name) ∧ w'.cell? ⟨h, 1, none⟩ = some (.int .u32 f.mode) ∧ w'.cell? ⟨h, 2, none⟩ = some (.int .i64 f.time) ∧ w'.cell? ⟨h, 3, none⟩ = some (.slice A1 n1 c1))
          (first | go_keep | exact T5.out.c | exact T4.out.c)
          ((first
            | (go_at_call 29; refine (number_at u5 L5 f.name.size _ _ (wrap_nat (by have := HFS.out; omega)) (by have := HFS.out; omega) T0.out.drew.o5 (by have := HLN.out.1; omega)).mono ?_; rintro e w4 ⟨v4, rfl, ho4, hg4⟩; have t4 := T0.out.drew.grow5 ho4 hg4; have T4 := Lib.hid t4.1; have TB4 := Lib.hid t4.2; clear ho4 hg4 t4)
            | (refine step_append_string rfl (.tmp 31) (.tmp 33) (by rfl) _ _ _ (by rfl) T4.out.o5 f.name (by rfl) (by have h1 := HLN.out.1; have h2 := HFS.out; have h3 := numb64 (n := f.name.size) (by omega); rw [List.length_append]; omega) ?_; intro v5' w5 ho5 hg5; have t5 := T4.out.grow5 (own_app (length_nums _) ho5) hg5; have T5 := Lib.hid t5.1; have TB5 := Lib.hid t5.2; clear ho5 hg5 t5)))
        rename_i hHeld; clear hHeld hcs
        have hm0 : 0 ≤ f.mode := HFOK.out.mode.1
        have hm1 : f.mode < 4294967296 := HFOK.out.mode.2
        have ht0 := HFOK.out.time.1
        have ht1 := HFOK.out.time.2
        have HZ := Lib.hid (zig_x ht0 ht1)
        have HZL := Lib.hid (zig_lt ht0 ht1)
        clear ht0 ht1
        obtain ⟨L7, hL7⟩ : ∃ L, L5 ++ numb f.name.size ++ nums f.name = L := ⟨_, rfl⟩
        rw [hL7] at T5
        have hlen7 : L7.length ≤ 400000000 := by
          have h1 := HLN.out.1
          have h2 := HFS.out
          have h3 := numb64 (n := f.name.size) (by omega)
          rw [← hL7, List.length_append, List.length_append, length_nums]
          omega
        have HLN7 := Lib.hid hlen7; have HL7 := Lib.hid hL7; clear hlen7 hL7
        go_wp2_with fail
        have hcs := T5.out.c
        go_region_held3 (fun w' => w'.cell? ⟨h, 0, none⟩ = some (.string f.name) ∧ w'.cell? ⟨h, 1, none⟩ = some (.int .u32 f.mode) ∧ w'.cell? ⟨h, 2, none⟩ = some (.int .i64 f.time) ∧ w'.cell? ⟨h, 3, none⟩ = some (.slice A1 n1 c1))
          (first | go_keep | exact T7.out.c | exact T6.out.c)
          ((first
            | (go_at_call_of 29 (v5'); refine (number_at v5' L7 f.mode.toNat _ _ (by simp only [IntKind.wrap_u64]; omega) (by omega) T5.out.drew.o5 (by have := HLN7.out; omega)).mono ?_; rintro e w6 ⟨v6, rfl, ho6, hg6⟩; have t6 := T5.out.drew.grow5 ho6 hg6; have T6 := Lib.hid t6.1; have TB6 := Lib.hid t6.2; clear ho6 hg6 t6)
            | (go_at_call_of 29 (v6); refine (number_at v6 (L7 ++ numb f.mode.toNat) (zig f.time) _ _ HZ.out HZL.out T6.out.o5 (by have h1 := HLN7.out; have h3 := numb64 (n := f.mode.toNat) (by omega); rw [List.length_append]; omega)).mono ?_; rintro e w7 ⟨v7, rfl, ho7, hg7⟩; have t7 := T6.out.grow5 ho7 hg7; have T7 := Lib.hid t7.1; have TB7 := Lib.hid t7.2; clear ho7 hg7 t7)))
        rename_i hHeld; clear hHeld hcs
        obtain ⟨L8, hL8⟩ : ∃ L, L7 ++ numb f.mode.toNat ++ numb (zig f.time) = L := ⟨_, rfl⟩
        rw [hL8] at T7
        have hlen8 : L8.length ≤ 500000000 := by
          have h1 := HLN7.out
          have h3 := numb64 (n := f.mode.toNat) (by omega)
          have h4 := numb64 HZL.out
          rw [← hL8, List.length_append, List.length_append]
          omega
        have HLN8 := Lib.hid hlen8; have HL8 := Lib.hid hL8; clear hlen8 hL8
        obtain ⟨q8, q9, q10, q11⟩ := T7.out.c
        have hfbl : f.body.length = n1 := HR1.out.1
        have HFBL := Lib.hid hfbl; clear hfbl
        go_wp2_with fail
        refine (number_at v7 L8 f.body.length _ _ (by rw [HFBL.out]; exact wrap_nat (by have h1 := HFB.out; rw [HFBL.out] at h1; omega)) (by have := HFB.out; omega) T7.out.o5 (by have := HLN8.out; omega)).mono ?_
        rintro e w8 ⟨v8, rfl, ho8, hg8⟩
        have t8 := T7.out.grow5 ho8 hg8
        have T8 := Lib.hid t8.1; have TB8 := Lib.hid t8.2
        clear ho8 hg8 t8 q8 q9 q10 q11
        obtain ⟨q8, q9, q10, q11⟩ := T8.out.c
        have hrb : Below w2.heap.size w2 w8 := ((((HW0.out.drew.trans TB4.out).trans TB5.out).drew.trans TB6.out).trans TB7.out).trans TB8.out
        have HRB := Lib.hid hrb; clear hrb
        have HR8 := Lib.hid (HR1.out.same HRB.out)
        go_wp2_with (at_builtin; refine wpList_append_reads rfl (.tmp 56) (.tmp 58) 25 5 rfl Tryd.underlying25 info5 u6 L6.length n1 c1 A1 (bts L6) f.body rfl rfl T8.out.o6 HR8.out (by have h1 := HLN.out.2; have h2 := HFB.out; rw [HFBL.out] at h2; omega) ?_; intro v9 w9 hown hfr hloc; have t9 := T8.out.grow6 (own_app HFBL.out hown) ⟨hfr, hloc.imp id (fun h => ⟨_, h, Nat.le_refl _⟩)⟩; have T9 := Lib.hid t9.1; have TB9 := Lib.hid t9.2; clear hown hfr hloc t9)
        go_roundw
        case rel =>
          refine ⟨k + 1, by go_num, (by omega : k + 1 ≤ n), ?_, ?_, T9.out.apart, T9.out.f5, T9.out.f6, HRB.out.trans TB9.out⟩
          · show World.ownsRow _ _ _ _ _ _ _
            have e : numb n ++ headsB (gs.take (k + 1)) = L8 ++ numb f.body.length := by
              rw [HTS.out, headsB_snoc, ← List.append_assoc, HL5.out, ← HL8.out, ← HL7.out]
              unfold headB
              simp only [List.append_assoc]
            rw [e]
            exact T9.out.o5
          · show World.ownsRow _ _ _ _ _ _ _
            have e : bodiesB (gs.take (k + 1)) = L6 ++ f.body := by rw [HTS.out, bodiesB_snoc, HL6.out]
            rw [e]
            exact T9.out.o6
        case measure => simp [intOf]; omega
      · have hkn : k = n := by have := HK.out; omega
        subst hkn
        have ht : gs.take k = gs := List.take_of_length_le (by have := HGL.out; omega)
        rw [ht] at HO5 HO6
        have hlen5 : (numb k ++ headsB gs).length ≤ 300000000 := by
          have h1 := headsB_len gs (fun f hf => HOK.out f (HMEM.out f hf)) (fun f hf => HB.out f (HMEM.out f hf)) (fun f hf => HS.out f (HMEM.out f hf))
          have h2 := numb64 (n := k) (by omega)
          rw [HGL.out] at h1
          rw [List.length_append]
          omega
        have hlen6 : (bodiesB gs).length ≤ 300000000 := by
          have h1 := bodiesB_len gs (fun f hf => HB.out f (HMEM.out f hf))
          rw [HGL.out] at h1
          omega
        obtain ⟨A6, c6, rfl, hr6⟩ := own_reads HO6.out
        have HR6 := Lib.hid hr6; have HLN := Lib.hid (And.intro hlen5 hlen6)
        clear hr6 hlen5 hlen6 ht
        go_wp2_with (at_builtin; refine wpList_append_reads rfl (.tmp 61) (.tmp 62) 25 5 rfl Tryd.underlying25 info5 u5 (numb k ++ headsB gs).length (bodiesB gs).length c6 A6 (bts (numb k ++ headsB gs)) (bodiesB gs) rfl rfl HO5.out HR6.out (by have h1 := HLN.out; omega) ?_; intro v9 w9 hown hfr hloc; have O9 := Lib.hid (own_app rfl hown); have G9 := Lib.hid (Grew.mk hfr (hloc.imp id (fun h => ⟨_, h, Nat.le_refl _⟩))); clear hown hfr hloc)
        go_ret2
        have hfrom : From w.heap.size v9 := fun j hj => by
          have h1 := (HF5.out.grew G9.out HBL.out.size) j hj
          have h2 := HB2.out.size
          omega
        refine ⟨⟨fun h => absurd rfl h, fun _ => ⟨v9, gs, rfl, HSTB.out, ?_, hfrom⟩⟩, HB2.out.trans ((HBL.out.trans (G9.out.below HF5.out HBL.out.size)).mono HB2.out.size)⟩
        unfold encB
        rw [HGL.out]
        exact O9.out
  · have HD : Hid (¬ ck = 0) := h0
    go_enter Tryd.func13, Tryd.ntmps13
    go_wp2_with fail
    refine HCK.out.mono ?_
    rintro e w1 ⟨rfl, hb1⟩
    have HB1 := Lib.hid hb1; clear hb1
    go_wp2
    go_ret2
    exact ⟨⟨fun _ => rfl, fun h => absurd h HD.out⟩, HB1.out⟩
end Go.Proofs.YtlgonkopojancaaDoor
