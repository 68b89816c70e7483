/- The walk of FilesOrder. -/
import Derived.Test.YtlgonkopojancaaDoorFxTold
import Derived.BigQuiet
namespace Go.Proofs.YtlgonkopojancaaDoor
open Go.RowKit

/-- append of a row of files that is read, in a drawn region -/
theorem wp_append_rows {Q : Exit → Act → World → Prop} {K : Act → World → Prop} {o : Oper} {a : Act} {w : World}
    (s y : Operand) (ho : o.op = Op.call { callee := Callee.builtin Builtin.append, args := #[s, y], argTypes := #[23, 23] })
    (v : Value) (n m c : Nat) (A : Option Addr) (xs : List Value) (vs : List FV) (hs : a.eval s = v) (hy : a.eval y = .slice A m c) (hown : w.ownsRow 0 33 4 v n xs) (hr : VRd w A m vs) (hb : n + m ≤ 1000000000)
    (h : ∀ v' w', w'.ownsRow 0 33 4 v' (n + m) (xs ++ flat vs) → Grew v v' w w' → K (a.put o.dst v') w') :
    o.wp Tryd.prog a w K Q := by
  obtain ⟨i, hi, hz0, hz1, hz2⟩ := info_parts info33
  cases A with
  | none =>
    have hm : m = 0 := by
      rcases Nat.eq_zero_or_pos m with h0 | h0
      · exact h0
      · obtain ⟨b, o', e, _⟩ := hr.2.2 h0
        cases e
    subst hm
    have hvs : vs = [] := List.eq_nil_of_length_eq_zero hr.1
    subst hvs
    have hrun : (Builtin.append_ #[23, 23] o.type #[v, .slice none 0 c]).run Tryd.prog w = .ok v w := by
      rcases hown.2 with ⟨rfl, rfl⟩ | ⟨g, cap, cur, rfl, _, _, hnc, _⟩
      · simp [Builtin.append_, run_underlying Tryd.underlying23, sizeOf, typeInfo, hi, Builtin.lenOf, Builtin.firstCells]
      · simp [Builtin.append_, run_underlying Tryd.underlying23, sizeOf, typeInfo, hi, Builtin.lenOf, Builtin.firstCells, hnc, storeCells]
    unfold Oper.wp execOp
    simp only [ho, resolve, invoke, builtin, Sem.run_bind, Sem.run_pure, Result.andThen_ok, List.map_toArray, List.map_cons, List.map_nil, hs, hy, hrun]
    exact h v w (by simpa [flat] using hown) (Grew.refl _ _)
  | some ad =>
    obtain ⟨v', w', hrun, h2, h3, _, h5⟩ := run_append_own_at (P := Tryd.prog) w 0 23 o.type 33 i _ 4 56 Tryd.underlying23 hi hz0 hz1 hz2 rfl (by decide) v n xs hown ad m c (flat vs) (by rw [length_flat, hr.1])
      (vrd_flat hr) (by intro u hu; obtain ⟨x, _, hx⟩ := List.mem_flatMap.1 hu; exact one4 x u hx) (by unfold maxLen; omega) (by omega) (Nat.zero_le _)
    unfold Oper.wp execOp
    simp only [ho, resolve, invoke, builtin, Sem.run_bind, Sem.run_pure, Result.andThen_ok, List.map_toArray, List.map_cons, List.map_nil, hs, hy, hrun]
    exact h v' w' h2 ⟨Fr.of_grown h3, h5.imp id fun e => ⟨_, e, Nat.le_refl _⟩⟩

theorem vrd_drop {w : World} {A : Option Addr} {n c k : Nat} {vs : List FV} (h : VRd w A n vs) (hc : n ≤ c) (hk : k ≤ n) : VRd w (if c = k then A else A.map (·.add (k * 4))) (n - k) (vs.drop k) := by
  refine ⟨by rw [List.length_drop, h.1], Nat.le_trans (Nat.sub_le _ _) h.2.1, fun hn => ?_⟩
  obtain ⟨b, o, rfl, hcs⟩ := h.2.2 (by omega)
  rw [if_neg (by omega)]
  refine ⟨b, o + k * 4, ?_, fun j hj i u hu => ?_⟩
  · simp only [Option.map_some]
    congr 1
    unfold Addr.add
    simp
  · have e : (vs.drop k).getD j default = vs.getD (k + j) default := by
      rw [List.getD_eq_getElem?_getD, List.getD_eq_getElem?_getD, List.getElem?_drop]
    rw [e] at hu
    have := hcs (k + j) (by omega) i u hu
    rw [show o + (k + j) * 4 + i = o + k * 4 + j * 4 + i by omega] at this
    exact this
theorem vrd_take {w : World} {A : Option Addr} {n k : Nat} {vs : List FV} (h : VRd w A n vs) (hk : k ≤ n) : VRd w A k (vs.take k) := by
  refine ⟨by rw [List.length_take, h.1]; omega, Nat.le_trans hk h.2.1, fun hn => ?_⟩
  obtain ⟨b, o, rfl, hcs⟩ := h.2.2 (by omega)
  refine ⟨b, o, rfl, fun j hj i u hu => ?_⟩
  have e : (vs.take k).getD j default = vs.getD j default := by
    rw [List.getD_eq_getElem?_getD, List.getD_eq_getElem?_getD, List.getElem?_take_of_lt (by omega)]
  rw [e] at hu
  exact hcs j (by omega) i u hu
theorem turned_rd {w : World} {fs : List Fi} {vs : List FV} {k N n : Nat} {v : Value} (hvs : vs.map FV.f = fs) (hb : Bod w vs) (ho : w.ownsRow 0 33 4 v n ([] ++ flat (vs.drop k) ++ flat (vs.take k))) (hn : n = N) (h63 : N ≤ 1000000) : ∃ A c, v = .slice A N c ∧ FRd w A N (fs.drop k ++ fs.take k) := by
  subst hn
  have ho2 : w.ownsRow 0 33 4 v n (flat (vs.drop k ++ vs.take k)) := by rw [flat_append]; simpa using ho
  obtain ⟨A, c, e, hv⟩ := own_vrd ho2 (by omega)
  refine ⟨A, c, e, ?_⟩
  have := hv.files (fun u hu => hb u (by
    rcases List.mem_append.1 hu with h | h
    · exact List.mem_of_mem_drop h
    · exact List.mem_of_mem_take h))
  rw [List.map_append, List.map_drop, List.map_take, hvs] at this
  exact this
theorem rd_nil (w : World) : Rd w none 0 0 [] := ⟨⟨rfl, by decide, fun h => absurd h (by decide)⟩, Nat.le_refl _, by decide⟩
theorem srt_at {gs : List Fi} (h : Srt Fi.name gs) {i : Nat} (hi : i + 1 < gs.length) : lessB (gs.getD (i + 1) default).name (gs.getD i default).name = false := by
  rw [getD_eq hi, getD_eq (show i < gs.length by omega)]
  exact List.pairwise_iff_getElem.1 h i (i + 1) (by omega) hi (by omega)
theorem rot_perm (fs : List Fi) (k : Nat) : (fs.drop k ++ fs.take k).Perm fs := by
  refine List.perm_append_comm.trans ?_
  rw [List.take_append_drop]

set_option maxRecDepth 20000 in
set_option maxHeartbeats 8000000 in
theorem filesOrder_walk (w : World) (m : Int) (hm : w.cell? ⟨0, 0, none⟩ = some (.int .i64 m)) (A : Option Addr) (c : Nat) (fs : List Fi) (hF : Files w A fs.length c fs) (hok : ∀ f ∈ fs, FOk f) (x : Int) (hx : -9223372036854775808 ≤ x ∧ x ≤ 9223372036854775807) :
    Calls Tryd.prog 7 #[.slice A fs.length c, .int .i64 x] w fun e w' => e = .returned (.bool true) ∧ Below w.heap.size w w' := by
  have HOK := Lib.hid hok
  have F0 : Hid (FRd w A fs.length fs) := hF.1
  have HNC : Hid (fs.length ≤ c ∧ c ≤ 9223372036854775807) := hF.2
  have S0 := Lib.hid (St.refl hm)
  clear hm hF hok
  obtain ⟨N, hN⟩ : ∃ N, fs.length = N := ⟨_, rfl⟩
  rw [hN] at F0 HNC ⊢
  have HN := Lib.hid hN
  clear hN
  rcases hfew : fewB fs with _ | _
  · have HFEW := Lib.hid hfew; clear hfew
    go_enter Tryd.func7, Tryd.ntmps7
    go_wp2_with fail
    refine (awake_told S0.out).mono ?_
    rintro e w1 ⟨rfl, st, b⟩
    have S1 := Lib.hid st; have F1 := Lib.hid (F0.out.below b)
    clear st b
    go_wp2_with fail
    refine (few_told S1.out F1.out HOK.out HFEW.out).mono ?_
    rintro e w2 ⟨rfl, st, b⟩
    have S2 := Lib.hid st
    clear st b
    go_wp2_with fail
    go_ret
    exact ⟨rfl, S2.out.bel⟩
  · have HFEW := Lib.hid hfew; clear hfew
    have HW := Lib.hid (few_ok HFEW.out)
    have n60 : (N : Int) ≤ 60 := by have := HW.out.1; have := HN.out; omega
    obtain ⟨ck, hck⟩ : ∃ ck, checkI fs = ck := ⟨_, rfl⟩
    have HCK := Lib.hid hck; clear hck
    obtain ⟨x1, x2⟩ := hx
    by_cases hneg : x < 0
    · go_enter Tryd.func7, Tryd.ntmps7
      go_wp2_with fail
      refine (awake_told S0.out).mono ?_
      rintro e w1 ⟨rfl, st, b⟩
      have S1 := Lib.hid st; have F1 := Lib.hid (F0.out.below b)
      clear st b
      go_wp2_with fail
      refine (few_told S1.out F1.out HOK.out HFEW.out).mono ?_
      rintro e w2 ⟨rfl, st, b⟩
      have S2 := Lib.hid st; have F2 := Lib.hid (F1.out.below b)
      clear st b
      go_wp2_with fail
      have hmod : -(x + 1).tmod ((N : Int) + 1) = (-(x + 1)) % ((N : Int) + 1) := by rw [← Int.neg_tmod, Int.tmod_eq_emod_of_nonneg (by omega)]
      obtain ⟨k, hk⟩ : ∃ k : Nat, -(x + 1).tmod ((N : Int) + 1) = (k : Int) := ⟨((-(x + 1)) % ((N : Int) + 1)).toNat, by rw [hmod]; exact (Int.toNat_of_nonneg (Int.emod_nonneg _ (by omega))).symm⟩
      have hkn : (k : Int) ≤ N := by have := Int.emod_lt_of_pos (-(x + 1)) (b := (N : Int) + 1) (by omega); omega
      clear hmod
      have hkc : k ≤ c := by have := HNC.out; omega
      rw [hk]
      clear hk
      obtain ⟨vs, hvs, hv, hbod⟩ := F2.out.choose
      have HVS := Lib.hid hvs; have HV := Lib.hid hv; have HBOD := Lib.hid hbod
      clear hvs hv hbod
      obtain ⟨V, hV⟩ : ∃ V, w2.drew.alloc (.cells #[] 33) = V := ⟨_, rfl⟩
      have HLIT : Hid ((w2.drew.alloc (.cells #[] 33)).ownsRow 0 33 4 (.slice (some ⟨w2.drew.heap.size, 0, none⟩) 0 0) 0 []) := (World.ownsRow_lit w2.drew #[] 0 (Nat.zero_le _) (by decide) rfl : (w2.drew.alloc (.cells #[] 33)).ownsRow 0 33 4 (.slice (some ⟨w2.drew.heap.size, 0, none⟩) 0 0) 0 [])
      have HSM : Hid (Same w2 (w2.drew.alloc (.cells #[] 33))) := ((Fr.refl _ w2).drew.alloc _ : Same w2 (w2.drew.alloc (.cells #[] 33)))
      have HV3 := Lib.hid (HV.out.same (below_fr HSM.out))
      have HLF : Hid (From w2.heap.size (.slice (some ⟨w2.drew.heap.size, 0, none⟩) 0 0)) := (fun j hj => by simp [Value.ownBlock] at hj; exact Nat.le_of_eq hj : From w2.heap.size (.slice (some ⟨w2.drew.heap.size, 0, none⟩) 0 0))
      clear hV V
      refine wp_region_held_drew (S := fun _ => True) (by kernel_rfl) (by exact trivial) (fun hHeld => ?_)
      refine wpAnyH_take (i := 1) (v := ?vn1) (idx_of_drop rfl) (by kernel_rfl) (by kernel_rfl) (by kernel_rfl) (fun _ _ _ h => h) (Or.inl ⟨by rfl, ?yn1⟩) (by assumption) ?rn1
      case yn1 => (intro w hSw; go_simp <;> with_reducible rfl)
      (try simp only [Act.put, List.setIfInBounds_toArray, List.set_cons_zero, List.set_cons_succ])
      refine wpAnyH_take (i := 2) (v := ?vn2) (idx_of_drop rfl) (by kernel_rfl) (by kernel_rfl) (by kernel_rfl) (fun _ _ _ h => h) (Or.inl ⟨by rfl, ?yn2⟩) (by assumption) ?rn2
      case yn2 => (intro w hSw; go_simp <;> with_reducible rfl)
      (try simp only [Act.put, List.setIfInBounds_toArray, List.set_cons_zero, List.set_cons_succ])
      refine wpAnyH_take (i := 3) (v := ?vn3) (idx_of_drop rfl) (by kernel_rfl) (by kernel_rfl) (by kernel_rfl) (fun _ _ _ h => h) (Or.inl ⟨by rfl, ?yn3⟩) (by assumption) ?rn3
      case yn3 => (intro w hSw; go_simp <;> with_reducible rfl)
      (try simp only [Act.put, List.setIfInBounds_toArray, List.set_cons_zero, List.set_cons_succ])
      refine wpAnyH_take (i := 5) (v := ?vn4) (idx_of_drop rfl) (by kernel_rfl) (by kernel_rfl) (by kernel_rfl) (fun _ _ _ h => h) (Or.inl ⟨by rfl, ?yn4⟩) (by assumption) ?rn4
      case yn4 => (intro w hSw; go_simp <;> with_reducible rfl)
      (try simp only [Act.put, List.setIfInBounds_toArray, List.set_cons_zero, List.set_cons_succ])
      refine wpAnyH_take (i := 6) (v := ?vn5) (idx_of_drop rfl) (by kernel_rfl) (by kernel_rfl) (by kernel_rfl) (fun _ _ _ h => h) (Or.inl ⟨by rfl, ?yn5⟩) (by assumption) ?rn5
      case yn5 => (intro w hSw; go_simp <;> with_reducible rfl)
      (try simp only [Act.put, List.setIfInBounds_toArray, List.set_cons_zero, List.set_cons_succ])
      refine wpAnyH_take (i := 7) (v := ?vn6) (idx_of_drop rfl) (by kernel_rfl) (by kernel_rfl) (by kernel_rfl) (fun _ _ _ h => h) (Or.inl ⟨by rfl, ?yn6⟩) (by assumption) ?rn6
      case yn6 => (intro w hSw; go_simp <;> with_reducible rfl)
      (try simp only [Act.put, List.setIfInBounds_toArray, List.set_cons_zero, List.set_cons_succ])
      refine wpAnyH_ready (rs := [0]) (by kernel_rfl) (by simp) ?_
      refine AllReadyH.cons (idx_of_drop rfl) (fun K hK => ?sn7) ?mn7
      case sn7 =>
        go_simp
        refine hK.out _ _ (by exact trivial) (fun hHeld => ?_)
        clear hK K
        (try simp only [Act.put, List.setIfInBounds_toArray, List.set_cons_zero, List.set_cons_succ])
        refine wpAnyH_ready (rs := [4]) (by kernel_rfl) (by simp) ?_
        refine AllReadyH.cons (idx_of_drop rfl) (fun K hK => ?sn8) ?mn8
        case sn8 =>
          rw [if_pos (by rfl)]
          refine wp_append_rows (.tmp 28) (.tmp 31) rfl _ 0 (N - k) (c - k) _ [] (vs.drop k) (by rfl) (by rfl) HLIT.out (vrd_drop (HV3.out) HNC.out.1 (by omega)) (by omega) ?_
          intro v3 w3 ho hg
          have hb3 : Below w2.heap.size w2 w3 := (below_fr HSM.out).trans (hg.below HLF.out (below_fr HSM.out).size)
          have HO3 := Lib.hid ho; have HB3 := Lib.hid hb3; have HFR3 := Lib.hid (HLF.out.grew hg (by simp))
          clear ho hg hb3
          refine hK.out _ _ (by exact trivial) (fun hHeld => ?_)
          clear hK K
          (try simp only [Act.put, List.setIfInBounds_toArray, List.set_cons_zero, List.set_cons_succ])
          refine wpAnyH_ready (rs := [8]) (by kernel_rfl) (by simp) ?_
          refine AllReadyH.cons (idx_of_drop rfl) (fun K hK => ?sn9) ?mn9
          case sn9 =>
            rw [if_pos (by rfl)]
            refine wp_append_rows (.tmp 32) (.tmp 35) rfl _ (0 + (N - k)) k c _ _ (vs.take k) (by rfl) (by rfl) HO3.out (vrd_take (HV.out.same HB3.out) (by omega)) (by omega) ?_
            intro v4 w4 ho hg
            have hb4 : Below w2.heap.size w2 w4 := HB3.out.trans (hg.below HFR3.out HB3.out.size)
            have HO4 := Lib.hid ho; have HB4 := Lib.hid hb4
            clear ho hg hb4
            refine hK.out _ _ (by exact trivial) (fun hHeld => ?_)
            clear hK K
            (try simp only [Act.put, List.setIfInBounds_toArray, List.set_cons_zero, List.set_cons_succ])
            refine wpAnyH_take (i := 9) (v := ?vn10) (idx_of_drop rfl) (by kernel_rfl) (by kernel_rfl) (by kernel_rfl) (fun _ _ _ h => h) (Or.inl ⟨by rfl, ?yn10⟩) (by assumption) ?rn10
            case yn10 => (intro w hSw; go_simp <;> with_reducible rfl)
            (try simp only [Act.put, List.setIfInBounds_toArray, List.set_cons_zero, List.set_cons_succ])
            refine wpAnyH_done (by kernel_rfl) ?_ _
            rename_i hH; clear hH
            obtain ⟨A4, c4, hv4, hT⟩ := turned_rd (N := N) HVS.out (HBOD.out.same HB4.out) HO4.out (by omega) (by omega)
            subst hv4
            have T4 := Lib.hid hT; have S4 := Lib.hid (S2.out.step HB4.out); have F4 := Lib.hid (F2.out.same HB4.out)
            have HP := Lib.hid (rot_perm fs k)
            have HOKT : Hid (∀ f ∈ fs.drop k ++ fs.take k, FOk f) := (fun f hf => HOK.out f (HP.out.mem_iff.1 hf) : ∀ f ∈ fs.drop k ++ fs.take k, FOk f)
            have HWT := Lib.hid (HW.out.perm HP.out)
            have HCT := Lib.hid ((checkI_perm HP.out).trans HCK.out)
            clear hT HO4 HB4 HO3 HB3 HFR3 HBOD HVS HV HV3 HLF HSM HLIT
            obtain ⟨AX, hAX⟩ : ∃ AX, (if c = k then A else Option.map (fun x => x.add (k * 4)) A) = AX := ⟨_, rfl⟩
            rw [hAX]
            clear hAX
            go_wp2_with fail
            by_cases h0 : ck = 0
            · subst h0
              refine (enc_told S4.out F4.out (by omega) HW.out.body HW.out.name HOK.out HCK.out).mono ?_
              rintro e w5 ⟨gs, A5, c5, rfl, hst, hr, st, b⟩
              obtain ⟨E, hE⟩ : ∃ E, encB gs = E := ⟨_, rfl⟩
              rw [hE] at hr ⊢
              have S5 := Lib.hid st; have F5 := Lib.hid (F4.out.below b); have T5 := Lib.hid (T4.out.below b)
              have HST := Lib.hid hst; have HR5 := Lib.hid hr; have HE := Lib.hid hE
              clear st b hst hr hE
              go_wp2_with fail
              refine (enc_told S5.out T5.out (by omega) HWT.out.body HWT.out.name HOKT.out HCT.out).mono ?_
              rintro e w6 ⟨gs', A6, c6, rfl, hst, hr, st, b⟩
              obtain rfl : gs = gs' := stable_unique (stable_any (check_parts HCK.out).2.1 HP.out HST.out) hst
              rw [HE.out] at hr ⊢
              have S6 := Lib.hid st; have F6 := Lib.hid (F5.out.below b); have Q6 := Lib.hid (HR5.out.below b); have R6 := Lib.hid hr
              clear st b hst hr
              go_wp2_with fail
              refine (sort_told S6.out F6.out (by omega) HW.out.body).mono ?_
              rintro e w7 ⟨hs, A7, c7, rfl, hst, hf, st, b⟩
              have S7 := Lib.hid st; have G7 := Lib.hid hf; have HSR := Lib.hid hst.1
              have Q7 := Lib.hid (Q6.out.below b); have R7 := Lib.hid (R6.out.below b)
              clear st b hst hf
              clear S0 S2 S4 S5 S6 F0 F1 F2 F4 F5 F6 T4 T5 Q6 R6 HOKT HWT HCT HP S1 HOK HFEW HW HCK
              go_wp2_with fail
              go_loopw [12] (fun v12 wr => ∃ p : Nat, v12 = .int .i64 ((p : Int) + 1) ∧ (p : Int) ≤ 100 ∧ Hid (Same w7 wr)) (fun v12 _ => N + 1 - (intOf v12).toNat)
              case atStart => exact ⟨0, rfl, by omega, Fr.refl _ _⟩
              case round =>
                obtain ⟨p, rfl, hp, HSM⟩ := hrel
                by_cases hi : (p : Int) + 1 < N
                · obtain ⟨b, o, Aa, na, ca, hA7, hr1, hl1⟩ := G7.out.load (j := p) (by omega)
                  obtain ⟨b', o', Ab, nb, cb, hA8, hr2, hl2⟩ := G7.out.load (j := p + 1) (by omega)
                  rw [hA7] at hA8
                  injection hA8 with hA8
                  injection hA8 with hA8 hA9
                  subst hA8; subst hA9; subst hA7
                  have k0 := (hl1 wr (below_same HSM.out)).1
                  have k1 := (hl2 wr (below_same HSM.out)).1
                  have hq := srt_at HSR.out (i := p) (by rw [G7.out.1]; omega)
                  clear hr1 hl1 hr2 hl2
                  obtain ⟨sa, hsa⟩ : ∃ s, (hs.getD p default).name = s := ⟨_, rfl⟩
                  obtain ⟨sb, hsb⟩ : ∃ s, (hs.getD (p + 1) default).name = s := ⟨_, rfl⟩
                  rw [hsa] at k0 hq
                  rw [hsb] at k1 hq
                  clear hsa hsb
                  have hq2 : Op.bytesLess sb.toList sa.toList = false := hq
                  clear hq
                  go_wp2_with fail
                  go_quiet (fail)
                  go_wp2_with fail
                  go_roundw
                  case rel => exact ⟨p + 1, by go_num, by omega, HSM.out.drewN _⟩
                  case measure => simp [intOf]; omega
                · have c1 := conv_reads (c := c5) (Q7.out.below (below_same HSM.out)).1
                  have c2 := conv_reads (c := c6) (R7.out.below (below_same HSM.out)).1
                  go_wp2_with fail
                  go_ret
                  exact ⟨rfl, S7.out.bel.trans (HSM.out.below _ S7.out.bel.size (fun _ _ e => e))⟩
            · refine (enc_err S4.out F4.out HW.out HOK.out HCK.out h0).mono ?_
              rintro e w5 ⟨rfl, st, b⟩
              have S5 := Lib.hid st; have F5 := Lib.hid (F4.out.below b); have T5 := Lib.hid (T4.out.below b)
              clear st b
              go_wp2_with fail
              refine (enc_err S5.out T5.out HWT.out HOKT.out HCT.out h0).mono ?_
              rintro e w6 ⟨rfl, st, b⟩
              have S6 := Lib.hid st; have F6 := Lib.hid (F5.out.below b)
              have Q6 : Hid (Rd w6 none 0 0 []) := rd_nil w6
              have R6 : Hid (Rd w6 none 0 0 []) := rd_nil w6
              clear st b
              go_wp2_with fail
              refine (sort_told S6.out F6.out (by omega) HW.out.body).mono ?_
              rintro e w7 ⟨hs, A7, c7, rfl, hst, hf, st, b⟩
              have S7 := Lib.hid st; have G7 := Lib.hid hf; have HSR := Lib.hid hst.1
              have Q7 := Lib.hid (Q6.out.below b); have R7 := Lib.hid (R6.out.below b)
              clear st b hst hf
              clear S0 S2 S4 S5 S6 F0 F1 F2 F4 F5 F6 T4 T5 Q6 R6 HOKT HWT HCT HP S1 HOK HFEW HW HCK
              go_wp2_with fail
              go_loopw [12] (fun v12 wr => ∃ p : Nat, v12 = .int .i64 ((p : Int) + 1) ∧ (p : Int) ≤ 100 ∧ Hid (Same w7 wr)) (fun v12 _ => N + 1 - (intOf v12).toNat)
              case atStart => exact ⟨0, rfl, by omega, Fr.refl _ _⟩
              case round =>
                obtain ⟨p, rfl, hp, HSM⟩ := hrel
                by_cases hi : (p : Int) + 1 < N
                · obtain ⟨b, o, Aa, na, ca, hA7, hr1, hl1⟩ := G7.out.load (j := p) (by omega)
                  obtain ⟨b', o', Ab, nb, cb, hA8, hr2, hl2⟩ := G7.out.load (j := p + 1) (by omega)
                  rw [hA7] at hA8
                  injection hA8 with hA8
                  injection hA8 with hA8 hA9
                  subst hA8; subst hA9; subst hA7
                  have k0 := (hl1 wr (below_same HSM.out)).1
                  have k1 := (hl2 wr (below_same HSM.out)).1
                  have hq := srt_at HSR.out (i := p) (by rw [G7.out.1]; omega)
                  clear hr1 hl1 hr2 hl2
                  obtain ⟨sa, hsa⟩ : ∃ s, (hs.getD p default).name = s := ⟨_, rfl⟩
                  obtain ⟨sb, hsb⟩ : ∃ s, (hs.getD (p + 1) default).name = s := ⟨_, rfl⟩
                  rw [hsa] at k0 hq
                  rw [hsb] at k1 hq
                  clear hsa hsb
                  have hq2 : Op.bytesLess sb.toList sa.toList = false := hq
                  clear hq
                  go_wp2_with fail
                  go_quiet (fail)
                  go_wp2_with fail
                  go_roundw
                  case rel => exact ⟨p + 1, by go_num, by omega, HSM.out.drewN _⟩
                  case measure => simp [intOf]; omega
                · have c1 := conv_reads (c := 0) (Q7.out.below (below_same HSM.out)).1
                  have c2 := conv_reads (c := 0) (R7.out.below (below_same HSM.out)).1
                  go_wp2_with fail
                  go_ret
                  exact ⟨rfl, S7.out.bel.trans (HSM.out.below _ S7.out.bel.size (fun _ _ e => e))⟩
          exact AllReadyH.nil
        exact AllReadyH.nil
      exact AllReadyH.nil
    · go_enter Tryd.func7, Tryd.ntmps7
      go_wp2_with fail
      refine (awake_told S0.out).mono ?_
      rintro e w1 ⟨rfl, st, b⟩
      have S1 := Lib.hid st; have F1 := Lib.hid (F0.out.below b)
      clear st b
      go_wp2_with fail
      refine (few_told S1.out F1.out HOK.out HFEW.out).mono ?_
      rintro e w2 ⟨rfl, st, b⟩
      have S2 := Lib.hid st; have F2 := Lib.hid (F1.out.below b)
      clear st b
      go_wp2_with fail
      obtain ⟨k, hk⟩ : ∃ k : Nat, x % ((N : Int) + 1) = (k : Int) := ⟨(x % ((N : Int) + 1)).toNat, (Int.toNat_of_nonneg (Int.emod_nonneg _ (by omega))).symm⟩
      have hkn : (k : Int) ≤ N := by have := Int.emod_lt_of_pos x (b := (N : Int) + 1) (by omega); omega
      have hkc : k ≤ c := by have := HNC.out; omega
      rw [hk]
      clear hk
      obtain ⟨vs, hvs, hv, hbod⟩ := F2.out.choose
      have HVS := Lib.hid hvs; have HV := Lib.hid hv; have HBOD := Lib.hid hbod
      clear hvs hv hbod
      obtain ⟨V, hV⟩ : ∃ V, w2.drew.alloc (.cells #[] 33) = V := ⟨_, rfl⟩
      have HLIT : Hid ((w2.drew.alloc (.cells #[] 33)).ownsRow 0 33 4 (.slice (some ⟨w2.drew.heap.size, 0, none⟩) 0 0) 0 []) := (World.ownsRow_lit w2.drew #[] 0 (Nat.zero_le _) (by decide) rfl : (w2.drew.alloc (.cells #[] 33)).ownsRow 0 33 4 (.slice (some ⟨w2.drew.heap.size, 0, none⟩) 0 0) 0 [])
      have HSM : Hid (Same w2 (w2.drew.alloc (.cells #[] 33))) := ((Fr.refl _ w2).drew.alloc _ : Same w2 (w2.drew.alloc (.cells #[] 33)))
      have HV3 := Lib.hid (HV.out.same (below_fr HSM.out))
      have HLF : Hid (From w2.heap.size (.slice (some ⟨w2.drew.heap.size, 0, none⟩) 0 0)) := (fun j hj => by simp [Value.ownBlock] at hj; exact Nat.le_of_eq hj : From w2.heap.size (.slice (some ⟨w2.drew.heap.size, 0, none⟩) 0 0))
      clear hV V
      refine wp_region_held_drew (S := fun _ => True) (by kernel_rfl) (by exact trivial) (fun hHeld => ?_)
      refine wpAnyH_take (i := 1) (v := ?vp1) (idx_of_drop rfl) (by kernel_rfl) (by kernel_rfl) (by kernel_rfl) (fun _ _ _ h => h) (Or.inl ⟨by rfl, ?yp1⟩) (by assumption) ?rp1
      case yp1 => (intro w hSw; go_simp <;> with_reducible rfl)
      (try simp only [Act.put, List.setIfInBounds_toArray, List.set_cons_zero, List.set_cons_succ])
      refine wpAnyH_take (i := 2) (v := ?vp2) (idx_of_drop rfl) (by kernel_rfl) (by kernel_rfl) (by kernel_rfl) (fun _ _ _ h => h) (Or.inl ⟨by rfl, ?yp2⟩) (by assumption) ?rp2
      case yp2 => (intro w hSw; go_simp <;> with_reducible rfl)
      (try simp only [Act.put, List.setIfInBounds_toArray, List.set_cons_zero, List.set_cons_succ])
      refine wpAnyH_take (i := 3) (v := ?vp3) (idx_of_drop rfl) (by kernel_rfl) (by kernel_rfl) (by kernel_rfl) (fun _ _ _ h => h) (Or.inl ⟨by rfl, ?yp3⟩) (by assumption) ?rp3
      case yp3 => (intro w hSw; go_simp <;> with_reducible rfl)
      (try simp only [Act.put, List.setIfInBounds_toArray, List.set_cons_zero, List.set_cons_succ])
      refine wpAnyH_take (i := 5) (v := ?vp4) (idx_of_drop rfl) (by kernel_rfl) (by kernel_rfl) (by kernel_rfl) (fun _ _ _ h => h) (Or.inl ⟨by rfl, ?yp4⟩) (by assumption) ?rp4
      case yp4 => (intro w hSw; go_simp <;> with_reducible rfl)
      (try simp only [Act.put, List.setIfInBounds_toArray, List.set_cons_zero, List.set_cons_succ])
      refine wpAnyH_take (i := 6) (v := ?vp5) (idx_of_drop rfl) (by kernel_rfl) (by kernel_rfl) (by kernel_rfl) (fun _ _ _ h => h) (Or.inl ⟨by rfl, ?yp5⟩) (by assumption) ?rp5
      case yp5 => (intro w hSw; go_simp <;> with_reducible rfl)
      (try simp only [Act.put, List.setIfInBounds_toArray, List.set_cons_zero, List.set_cons_succ])
      refine wpAnyH_take (i := 7) (v := ?vp6) (idx_of_drop rfl) (by kernel_rfl) (by kernel_rfl) (by kernel_rfl) (fun _ _ _ h => h) (Or.inl ⟨by rfl, ?yp6⟩) (by assumption) ?rp6
      case yp6 => (intro w hSw; go_simp <;> with_reducible rfl)
      (try simp only [Act.put, List.setIfInBounds_toArray, List.set_cons_zero, List.set_cons_succ])
      refine wpAnyH_ready (rs := [0]) (by kernel_rfl) (by simp) ?_
      refine AllReadyH.cons (idx_of_drop rfl) (fun K hK => ?sp7) ?mp7
      case sp7 =>
        go_simp
        refine hK.out _ _ (by exact trivial) (fun hHeld => ?_)
        clear hK K
        (try simp only [Act.put, List.setIfInBounds_toArray, List.set_cons_zero, List.set_cons_succ])
        refine wpAnyH_ready (rs := [4]) (by kernel_rfl) (by simp) ?_
        refine AllReadyH.cons (idx_of_drop rfl) (fun K hK => ?sp8) ?mp8
        case sp8 =>
          rw [if_pos (by rfl)]
          refine wp_append_rows (.tmp 28) (.tmp 31) rfl _ 0 (N - k) (c - k) _ [] (vs.drop k) (by rfl) (by rfl) HLIT.out (vrd_drop (HV3.out) HNC.out.1 (by omega)) (by omega) ?_
          intro v3 w3 ho hg
          have hb3 : Below w2.heap.size w2 w3 := (below_fr HSM.out).trans (hg.below HLF.out (below_fr HSM.out).size)
          have HO3 := Lib.hid ho; have HB3 := Lib.hid hb3; have HFR3 := Lib.hid (HLF.out.grew hg (by simp))
          clear ho hg hb3
          refine hK.out _ _ (by exact trivial) (fun hHeld => ?_)
          clear hK K
          (try simp only [Act.put, List.setIfInBounds_toArray, List.set_cons_zero, List.set_cons_succ])
          refine wpAnyH_ready (rs := [8]) (by kernel_rfl) (by simp) ?_
          refine AllReadyH.cons (idx_of_drop rfl) (fun K hK => ?sp9) ?mp9
          case sp9 =>
            rw [if_pos (by rfl)]
            refine wp_append_rows (.tmp 32) (.tmp 35) rfl _ (0 + (N - k)) k c _ _ (vs.take k) (by rfl) (by rfl) HO3.out (vrd_take (HV.out.same HB3.out) (by omega)) (by omega) ?_
            intro v4 w4 ho hg
            have hb4 : Below w2.heap.size w2 w4 := HB3.out.trans (hg.below HFR3.out HB3.out.size)
            have HO4 := Lib.hid ho; have HB4 := Lib.hid hb4
            clear ho hg hb4
            refine hK.out _ _ (by exact trivial) (fun hHeld => ?_)
            clear hK K
            (try simp only [Act.put, List.setIfInBounds_toArray, List.set_cons_zero, List.set_cons_succ])
            refine wpAnyH_take (i := 9) (v := ?vp10) (idx_of_drop rfl) (by kernel_rfl) (by kernel_rfl) (by kernel_rfl) (fun _ _ _ h => h) (Or.inl ⟨by rfl, ?yp10⟩) (by assumption) ?rp10
            case yp10 => (intro w hSw; go_simp <;> with_reducible rfl)
            (try simp only [Act.put, List.setIfInBounds_toArray, List.set_cons_zero, List.set_cons_succ])
            refine wpAnyH_done (by kernel_rfl) ?_ _
            rename_i hH; clear hH
            obtain ⟨A4, c4, hv4, hT⟩ := turned_rd (N := N) HVS.out (HBOD.out.same HB4.out) HO4.out (by omega) (by omega)
            subst hv4
            have T4 := Lib.hid hT; have S4 := Lib.hid (S2.out.step HB4.out); have F4 := Lib.hid (F2.out.same HB4.out)
            have HP := Lib.hid (rot_perm fs k)
            have HOKT : Hid (∀ f ∈ fs.drop k ++ fs.take k, FOk f) := (fun f hf => HOK.out f (HP.out.mem_iff.1 hf) : ∀ f ∈ fs.drop k ++ fs.take k, FOk f)
            have HWT := Lib.hid (HW.out.perm HP.out)
            have HCT := Lib.hid ((checkI_perm HP.out).trans HCK.out)
            clear hT HO4 HB4 HO3 HB3 HFR3 HBOD HVS HV HV3 HLF HSM HLIT
            obtain ⟨AX, hAX⟩ : ∃ AX, (if c = k then A else Option.map (fun x => x.add (k * 4)) A) = AX := ⟨_, rfl⟩
            rw [hAX]
            clear hAX
            go_wp2_with fail
            by_cases h0 : ck = 0
            · subst h0
              refine (enc_told S4.out F4.out (by omega) HW.out.body HW.out.name HOK.out HCK.out).mono ?_
              rintro e w5 ⟨gs, A5, c5, rfl, hst, hr, st, b⟩
              obtain ⟨E, hE⟩ : ∃ E, encB gs = E := ⟨_, rfl⟩
              rw [hE] at hr ⊢
              have S5 := Lib.hid st; have F5 := Lib.hid (F4.out.below b); have T5 := Lib.hid (T4.out.below b)
              have HST := Lib.hid hst; have HR5 := Lib.hid hr; have HE := Lib.hid hE
              clear st b hst hr hE
              go_wp2_with fail
              refine (enc_told S5.out T5.out (by omega) HWT.out.body HWT.out.name HOKT.out HCT.out).mono ?_
              rintro e w6 ⟨gs', A6, c6, rfl, hst, hr, st, b⟩
              obtain rfl : gs = gs' := stable_unique (stable_any (check_parts HCK.out).2.1 HP.out HST.out) hst
              rw [HE.out] at hr ⊢
              have S6 := Lib.hid st; have F6 := Lib.hid (F5.out.below b); have Q6 := Lib.hid (HR5.out.below b); have R6 := Lib.hid hr
              clear st b hst hr
              go_wp2_with fail
              refine (sort_told S6.out F6.out (by omega) HW.out.body).mono ?_
              rintro e w7 ⟨hs, A7, c7, rfl, hst, hf, st, b⟩
              have S7 := Lib.hid st; have G7 := Lib.hid hf; have HSR := Lib.hid hst.1
              have Q7 := Lib.hid (Q6.out.below b); have R7 := Lib.hid (R6.out.below b)
              clear st b hst hf
              clear S0 S2 S4 S5 S6 F0 F1 F2 F4 F5 F6 T4 T5 Q6 R6 HOKT HWT HCT HP S1 HOK HFEW HW HCK
              go_wp2_with fail
              go_loopw [12] (fun v12 wr => ∃ p : Nat, v12 = .int .i64 ((p : Int) + 1) ∧ (p : Int) ≤ 100 ∧ Hid (Same w7 wr)) (fun v12 _ => N + 1 - (intOf v12).toNat)
              case atStart => exact ⟨0, rfl, by omega, Fr.refl _ _⟩
              case round =>
                obtain ⟨p, rfl, hp, HSM⟩ := hrel
                by_cases hi : (p : Int) + 1 < N
                · obtain ⟨b, o, Aa, na, ca, hA7, hr1, hl1⟩ := G7.out.load (j := p) (by omega)
                  obtain ⟨b', o', Ab, nb, cb, hA8, hr2, hl2⟩ := G7.out.load (j := p + 1) (by omega)
                  rw [hA7] at hA8
                  injection hA8 with hA8
                  injection hA8 with hA8 hA9
                  subst hA8; subst hA9; subst hA7
                  have k0 := (hl1 wr (below_same HSM.out)).1
                  have k1 := (hl2 wr (below_same HSM.out)).1
                  have hq := srt_at HSR.out (i := p) (by rw [G7.out.1]; omega)
                  clear hr1 hl1 hr2 hl2
                  obtain ⟨sa, hsa⟩ : ∃ s, (hs.getD p default).name = s := ⟨_, rfl⟩
                  obtain ⟨sb, hsb⟩ : ∃ s, (hs.getD (p + 1) default).name = s := ⟨_, rfl⟩
                  rw [hsa] at k0 hq
                  rw [hsb] at k1 hq
                  clear hsa hsb
                  have hq2 : Op.bytesLess sb.toList sa.toList = false := hq
                  clear hq
                  go_wp2_with fail
                  go_quiet (fail)
                  go_wp2_with fail
                  go_roundw
                  case rel => exact ⟨p + 1, by go_num, by omega, HSM.out.drewN _⟩
                  case measure => simp [intOf]; omega
                · have c1 := conv_reads (c := c5) (Q7.out.below (below_same HSM.out)).1
                  have c2 := conv_reads (c := c6) (R7.out.below (below_same HSM.out)).1
                  go_wp2_with fail
                  go_ret
                  exact ⟨rfl, S7.out.bel.trans (HSM.out.below _ S7.out.bel.size (fun _ _ e => e))⟩
            · refine (enc_err S4.out F4.out HW.out HOK.out HCK.out h0).mono ?_
              rintro e w5 ⟨rfl, st, b⟩
              have S5 := Lib.hid st; have F5 := Lib.hid (F4.out.below b); have T5 := Lib.hid (T4.out.below b)
              clear st b
              go_wp2_with fail
              refine (enc_err S5.out T5.out HWT.out HOKT.out HCT.out h0).mono ?_
              rintro e w6 ⟨rfl, st, b⟩
              have S6 := Lib.hid st; have F6 := Lib.hid (F5.out.below b)
              have Q6 : Hid (Rd w6 none 0 0 []) := rd_nil w6
              have R6 : Hid (Rd w6 none 0 0 []) := rd_nil w6
              clear st b
              go_wp2_with fail
              refine (sort_told S6.out F6.out (by omega) HW.out.body).mono ?_
              rintro e w7 ⟨hs, A7, c7, rfl, hst, hf, st, b⟩
              have S7 := Lib.hid st; have G7 := Lib.hid hf; have HSR := Lib.hid hst.1
              have Q7 := Lib.hid (Q6.out.below b); have R7 := Lib.hid (R6.out.below b)
              clear st b hst hf
              clear S0 S2 S4 S5 S6 F0 F1 F2 F4 F5 F6 T4 T5 Q6 R6 HOKT HWT HCT HP S1 HOK HFEW HW HCK
              go_wp2_with fail
              go_loopw [12] (fun v12 wr => ∃ p : Nat, v12 = .int .i64 ((p : Int) + 1) ∧ (p : Int) ≤ 100 ∧ Hid (Same w7 wr)) (fun v12 _ => N + 1 - (intOf v12).toNat)
              case atStart => exact ⟨0, rfl, by omega, Fr.refl _ _⟩
              case round =>
                obtain ⟨p, rfl, hp, HSM⟩ := hrel
                by_cases hi : (p : Int) + 1 < N
                · obtain ⟨b, o, Aa, na, ca, hA7, hr1, hl1⟩ := G7.out.load (j := p) (by omega)
                  obtain ⟨b', o', Ab, nb, cb, hA8, hr2, hl2⟩ := G7.out.load (j := p + 1) (by omega)
                  rw [hA7] at hA8
                  injection hA8 with hA8
                  injection hA8 with hA8 hA9
                  subst hA8; subst hA9; subst hA7
                  have k0 := (hl1 wr (below_same HSM.out)).1
                  have k1 := (hl2 wr (below_same HSM.out)).1
                  have hq := srt_at HSR.out (i := p) (by rw [G7.out.1]; omega)
                  clear hr1 hl1 hr2 hl2
                  obtain ⟨sa, hsa⟩ : ∃ s, (hs.getD p default).name = s := ⟨_, rfl⟩
                  obtain ⟨sb, hsb⟩ : ∃ s, (hs.getD (p + 1) default).name = s := ⟨_, rfl⟩
                  rw [hsa] at k0 hq
                  rw [hsb] at k1 hq
                  clear hsa hsb
                  have hq2 : Op.bytesLess sb.toList sa.toList = false := hq
                  clear hq
                  go_wp2_with fail
                  go_quiet (fail)
                  go_wp2_with fail
                  go_roundw
                  case rel => exact ⟨p + 1, by go_num, by omega, HSM.out.drewN _⟩
                  case measure => simp [intOf]; omega
                · have c1 := conv_reads (c := 0) (Q7.out.below (below_same HSM.out)).1
                  have c2 := conv_reads (c := 0) (R7.out.below (below_same HSM.out)).1
                  go_wp2_with fail
                  go_ret
                  exact ⟨rfl, S7.out.bel.trans (HSM.out.below _ S7.out.bel.size (fun _ _ e => e))⟩
          exact AllReadyH.nil
        exact AllReadyH.nil
      exact AllReadyH.nil
end Go.Proofs.YtlgonkopojancaaDoor
