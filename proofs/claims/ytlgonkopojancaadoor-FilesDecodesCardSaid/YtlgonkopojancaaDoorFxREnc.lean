/- The reference's Encode. -/
import Derived.Test.YtlgonkopojancaaDoorFxREncL
import Derived.Test.YtlgonkopojancaaDoorFxRCheck
import Derived.Test.YtlgonkopojancaaDoorFxRSort
namespace Go.Proofs.YtlgonkopojancaaDoor
open Go.RowKit

set_option linter.unusedSimpArgs false in
set_option maxRecDepth 20000 in
set_option maxHeartbeats 8000000 in
theorem rencode_any (fs : List Fi) (A : Option Addr) (n c : Nat) (w : World) (hf : FRd w A n fs) (hn : n ≤ 1000000)
    (hok : ∀ f ∈ fs, FOk f) (hb : ∀ f ∈ fs, f.body.length ≤ 1000000) (hs : ∀ f ∈ fs, f.name.size ≤ 1000000) :
    Calls Tryd.prog 14 #[.slice A n c] w fun e w' => EncPost fs w.heap.size (checkI fs) e w' ∧ Below w.heap.size w w' := by
  have HF := Lib.hid hf; have HOK := Lib.hid hok; have HB := Lib.hid hb; have HS := Lib.hid hs
  have HCK := Lib.hid (rcheck_any fs A n c w hf hn hb (fun f h => (hok f h).name))
  clear hf hok hb hs
  obtain ⟨ck, hcke⟩ : ∃ ck, checkI fs = ck := ⟨_, rfl⟩
  rw [hcke] at HCK
  rw [hcke]
  have HCE := Lib.hid hcke; clear hcke
  by_cases h0 : ck = 0
  · subst h0
    have hn200 : (n : Int) ≤ 200 := by have := check_len HCE.out HF.out.1; omega
    go_enter Tryd.func14, Tryd.ntmps14
    go_wp2_with fail
    refine HCK.out.mono ?_
    rintro e w1 ⟨rfl, hs1⟩
    have HS1 := Lib.hid hs1; clear hs1
    go_wp2_with fail
    refine (rsort_any fs A n c w1 (HF.out.same (below_fr HS1.out)) hn).mono ?_
    rintro e w2 ⟨gs, A2, c2, rfl, hst, hrd, hb2⟩
    have HSTB := Lib.hid hst; have HRD := Lib.hid hrd; have HB2 := Lib.hid ((below_fr HS1.out).trans (hb2.mono HS1.out.size))
    have HGL : Hid (gs.length = n) := hrd.1
    have HMEM : Hid (∀ f ∈ gs, f ∈ fs) := fun f h => (stable_names hst f).1 h
    clear hst hrd hb2
    go_wp2_with fail
    refine (rnumber_at n _ w2 rfl (by omega)).mono ?_
    rintro e w3 ⟨v5, rfl, ho3, hf3, hb3⟩
    have HO3 := Lib.hid ho3; have HF3 := Lib.hid hf3; have HB3 := Lib.hid hb3
    clear ho3 hf3 hb3
    go_wp2_with fail
    go_loopw [5, 6, 7] (fun u5 u6 _ wr => ∃ k : Nat, u6 = .int .i64 k ∧ (k : Int) ≤ n ∧ Hid (wr.ownsRow 0 5 1 u5 (numb n ++ headsB (gs.take k)).length (bts (numb n ++ headsB (gs.take k)))) ∧ Hid (From w2.heap.size u5) ∧ Hid (Below w2.heap.size w2 wr)) (fun _ u6 _ _ => n - (intOf u6).toNat)
    case atStart =>
      refine ⟨0, rfl, by omega, ?_, HF3.out, HB3.out⟩
      show World.ownsRow _ _ _ _ _ _ _
      rw [show numb n ++ headsB (gs.take 0) = numb n by simp [headsB]]
      exact HO3.out
    case round =>
      obtain ⟨k, rfl, hkn, HO5, HF5, HBL⟩ := hrel
      by_cases hk : (k : Int) < n
      · obtain ⟨b, o, A1, n1, c1, rfl, hr1, hc1⟩ := HRD.out.load (j := k) (by omega)
        have hst := hc1 wr HBL.out
        have hkl : k < gs.length := by have := HGL.out; omega
        have hmem : gs.getD k default ∈ fs := HMEM.out _ (by rw [List.getD_eq_getElem?_getD, List.getElem?_eq_getElem hkl]; exact List.getElem_mem _)
        have hfok := HOK.out _ hmem
        have hfb := HB.out _ hmem
        have hfs := HS.out _ hmem
        have hts := take_snoc hkl
        obtain ⟨f, hfe⟩ : ∃ f, gs.getD k default = f := ⟨_, rfl⟩
        rw [hfe] at hst hfok hfb hfs hts hr1
        obtain ⟨q0, q1, q2, q3⟩ := hst
        have HTS := Lib.hid hts
        have HLB : Hid (n1 = f.body.length) := hr1.1.symm
        have hm0 : 0 ≤ f.mode := hfok.mode.1
        have hm1 : f.mode < 4294967296 := hfok.mode.2
        have ht0 := hfok.time.1
        have ht1 := hfok.time.2
        have hn1 : (n1 : Int) ≤ 1000000 := by have := HLB.out; omega
        have hsz : (f.name.size : Int) ≤ 1000000 := by omega
        have HZL := Lib.hid (zig_lt ht0 ht1)
        have HT := Lib.hid (And.intro ht0 ht1)
        obtain ⟨L, hL⟩ : ∃ L, numb n ++ headsB (gs.take k) = L := ⟨_, rfl⟩
        rw [hL] at HO5
        have hlen : L.length ≤ 300000000 := by
          have hgl : (gs.take k).length = k := by rw [List.length_take]; omega
          have h1 := headsB_len (gs.take k) (fun f hf => HOK.out f (HMEM.out f (List.mem_of_mem_take hf))) (fun f hf => HB.out f (HMEM.out f (List.mem_of_mem_take hf))) (fun f hf => HS.out f (HMEM.out f (List.mem_of_mem_take hf)))
          have h2 := numb64 (n := n) (by omega)
          rw [← hL, List.length_append]
          omega
        have HL := Lib.hid hL; have HLEN := Lib.hid hlen
        have n1' := numb64 (n := f.name.size) (by omega)
        have n2' := numb64 (n := f.mode.toNat) (by omega)
        have n3' := numb64 (n := zig f.time) HZL.out
        have HNL := Lib.hid (And.intro n1' (And.intro n2' n3'))
        clear hc1 hr1 hfe hmem hts hfb hfs hfok hL hlen hkl ht0 ht1 n1' n2' n3'
        go_wp2_with fail
        obtain ⟨h, hh⟩ : ∃ h, wr.heap.size = h := ⟨_, rfl⟩
        obtain ⟨W0, hW0⟩ : ∃ W0, wr.alloc (.cells #[.string f.name, .int .u32 f.mode, .int .i64 f.time, .slice A1 n1 c1] 33) = W0 := ⟨_, rfl⟩
        have hsame : Same wr W0 := by rw [← hW0]; exact (Fr.refl _ wr).alloc _
        have t0 : On w2.heap.size h (fcells f A1 n1 c1).toArray W0 u5 L := ⟨hsame.own HO5.out (fun _ _ e => e), HF5.out, by have := HBL.out.size; omega, by rw [← hW0, ← hh]; exact blk_new wr _⟩
        rw [hW0, hh]
        have OA := Lib.hid t0.drew
        have BA : Hid (Below w2.heap.size w2 W0.drew) := HBL.out.trans ((below_fr hsame.drew).mono HBL.out.size)
        clear hsame t0 hW0 hh q0 q1 q2 q3
        refine wp_region_held_drew (S := fun w' => w'.cell? ⟨h, 0, none⟩ = some (.string f.name) ∧ w'.cell? ⟨h, 1, none⟩ = some (.int .u32 f.mode) ∧ w'.cell? ⟨h, 2, none⟩ = some (.int .i64 f.time) ∧ w'.cell? ⟨h, 3, none⟩ = some (.slice A1 n1 c1)) (by kernel_rfl) (by exact OA.out.c) (fun hHeld => ?_)
        refine wpAnyH_take (i := 0) (v := ?va1) (idx_of_drop rfl) (by kernel_rfl) (by kernel_rfl) (by kernel_rfl) (fun _ _ _ h => h) (Or.inl ⟨by rfl, ?ya1⟩) (by assumption) ?ra1
        case ya1 => (intro ww hSw; obtain ⟨q0, q1, q2, q3⟩ := hSw; go_simp <;> with_reducible rfl)
        (try simp only [Act.put, List.setIfInBounds_toArray, List.set_cons_zero, List.set_cons_succ])
        refine wpAnyH_take (i := 1) (v := ?va2) (idx_of_drop rfl) (by kernel_rfl) (by kernel_rfl) (by kernel_rfl) (fun _ _ _ h => h) (Or.inl ⟨by rfl, ?ya2⟩) (by assumption) ?ra2
        case ya2 => (intro ww hSw; obtain ⟨q0, q1, q2, q3⟩ := hSw; go_simp <;> with_reducible rfl)
        (try simp only [Act.put, List.setIfInBounds_toArray, List.set_cons_zero, List.set_cons_succ])
        refine wpAnyH_take (i := 2) (v := ?va3) (idx_of_drop rfl) (by kernel_rfl) (by kernel_rfl) (by kernel_rfl) (fun _ _ _ h => h) (Or.inl ⟨by rfl, ?ya3⟩) (by assumption) ?ra3
        case ya3 => (intro ww hSw; obtain ⟨q0, q1, q2, q3⟩ := hSw; go_simp <;> with_reducible rfl)
        (try simp only [Act.put, List.setIfInBounds_toArray, List.set_cons_zero, List.set_cons_succ])
        refine wpAnyH_take (i := 3) (v := ?va4) (idx_of_drop rfl) (by kernel_rfl) (by kernel_rfl) (by kernel_rfl) (fun _ _ _ h => h) (Or.inl ⟨by rfl, ?ya4⟩) (by assumption) ?ra4
        case ya4 => (intro ww hSw; obtain ⟨q0, q1, q2, q3⟩ := hSw; go_simp <;> with_reducible rfl)
        (try simp only [Act.put, List.setIfInBounds_toArray, List.set_cons_zero, List.set_cons_succ])
        refine wpAnyH_take (i := 4) (v := ?va5) (idx_of_drop rfl) (by kernel_rfl) (by kernel_rfl) (by kernel_rfl) (fun _ _ _ h => h) (Or.inl ⟨by rfl, ?ya5⟩) (by assumption) ?ra5
        case ya5 => (intro ww hSw; obtain ⟨q0, q1, q2, q3⟩ := hSw; go_simp <;> with_reducible rfl)
        (try simp only [Act.put, List.setIfInBounds_toArray, List.set_cons_zero, List.set_cons_succ])
        refine wpAnyH_take (i := 7) (v := ?va6) (idx_of_drop rfl) (by kernel_rfl) (by kernel_rfl) (by kernel_rfl) (fun _ _ _ h => h) (Or.inl ⟨by rfl, ?ya6⟩) (by assumption) ?ra6
        case ya6 => (intro ww hSw; obtain ⟨q0, q1, q2, q3⟩ := hSw; go_simp <;> with_reducible rfl)
        (try simp only [Act.put, List.setIfInBounds_toArray, List.set_cons_zero, List.set_cons_succ])
        refine wpAnyH_take (i := 8) (v := ?va7) (idx_of_drop rfl) (by kernel_rfl) (by kernel_rfl) (by kernel_rfl) (fun _ _ _ h => h) (Or.inl ⟨by rfl, ?ya7⟩) (by assumption) ?ra7
        case ya7 => (intro ww hSw; obtain ⟨q0, q1, q2, q3⟩ := hSw; go_simp <;> with_reducible rfl)
        (try simp only [Act.put, List.setIfInBounds_toArray, List.set_cons_zero, List.set_cons_succ])
        refine wpAnyH_ready (rs := [5]) (by kernel_rfl) (by simp) ?_
        refine AllReadyH.cons (idx_of_drop rfl) (fun K hK => ?sa8) ?ma8
        case sa8 =>
          go_simp
          refine (rnumber_at f.name.size _ W0.drew (by first | rfl | exact wrap_nat (by omega) | omega) (by omega)).mono ?_
          rintro e wb ⟨vb, rfl, ho, hf, hb⟩
          obtain ⟨Ab, cb, rfl, hnm⟩ := nm_make OA.out ho hf
          have NB := Lib.hid hnm; have OB := Lib.hid (OA.out.below hb); have BB := Lib.hid (BA.out.trans (hb.mono BA.out.size))
          clear ho hf hb hnm
          refine hK.out _ _ (by exact OB.out.c) (fun hHeld => ?_)
          clear hK K
          (try simp only [Act.put, List.setIfInBounds_toArray, List.set_cons_zero, List.set_cons_succ])
          refine wpAnyH_ready (rs := [6]) (by kernel_rfl) (by simp) ?_
          refine AllReadyH.cons (idx_of_drop rfl) (fun K hK => ?sa9) ?ma9
          case sa9 =>
            refine step_append_reads rfl (.tmp 30) (.tmp 35) (by rfl) u5 L.length (numb f.name.size).length cb Ab (bts L) (numb f.name.size) (by rfl) (by rfl) OB.out.row NB.out.rd (by have h1 := HLEN.out; have h2 := HNL.out; (try simp only [List.length_append, length_nums]); omega) ?_
            intro vc wc ho hg
            have tc := OB.out.grow rfl ho hg
            have OC := Lib.hid tc.1; have BC := Lib.hid (BB.out.trans tc.2)
            clear ho hg tc
            refine hK.out _ _ (by exact OC.out.c) (fun hHeld => ?_)
            clear hK K
            (try simp only [Act.put, List.setIfInBounds_toArray, List.set_cons_zero, List.set_cons_succ])
            refine wpAnyH_ready (rs := [9]) (by kernel_rfl) (by simp) ?_
            refine AllReadyH.cons (idx_of_drop rfl) (fun K hK => ?sa10) ?ma10
            case sa10 =>
              refine step_append_string rfl (.tmp 36) (.tmp 38) (by rfl) vc (L ++ numb f.name.size).length (bts (L ++ numb f.name.size)) (by rfl) OC.out.row f.name (by rfl) (by have h1 := HLEN.out; have h2 := HNL.out; (try simp only [List.length_append, length_nums]); omega) ?_
              intro vd wd ho hg
              have td := OC.out.grow (length_nums f.name) ho hg
              have OD := Lib.hid td.1.drew; have BD : Hid (Below w2.heap.size w2 wd.drew) := BC.out.trans (td.2.trans ((below_fr (Fr.refl _ wd).drew).mono (BC.out.trans td.2).size))
              have OD0 := Lib.hid td.1; have BD0 := Lib.hid (BC.out.trans td.2)
              clear ho hg td
              refine hK.out _ _ (by exact OD0.out.c) (fun hHeld => ?_)
              clear hK K
              (try simp only [Act.put, List.setIfInBounds_toArray, List.set_cons_zero, List.set_cons_succ])
              refine wpAnyH_take (i := 10) (v := ?va11) (idx_of_drop rfl) (by kernel_rfl) (by kernel_rfl) (by kernel_rfl) (fun _ _ _ h => h) (Or.inl ⟨by rfl, ?ya11⟩) (by assumption) ?ra11
              case ya11 => (intro ww hSw; obtain ⟨q0, q1, q2, q3⟩ := hSw; go_simp <;> with_reducible rfl)
              (try simp only [Act.put, List.setIfInBounds_toArray, List.set_cons_zero, List.set_cons_succ])
              refine wpAnyH_done (by kernel_rfl) ?_ _
              rename_i hH; clear hH
              go_wp2_with fail
              refine wp_region_held_drew (S := fun w' => w'.cell? ⟨h, 0, none⟩ = some (.string f.name) ∧ w'.cell? ⟨h, 1, none⟩ = some (.int .u32 f.mode) ∧ w'.cell? ⟨h, 2, none⟩ = some (.int .i64 f.time) ∧ w'.cell? ⟨h, 3, none⟩ = some (.slice A1 n1 c1)) (by kernel_rfl) (by exact OD.out.c) (fun hHeld => ?_)
              refine wpAnyH_take (i := 0) (v := ?vb1) (idx_of_drop rfl) (by kernel_rfl) (by kernel_rfl) (by kernel_rfl) (fun _ _ _ h => h) (Or.inl ⟨by rfl, ?yb1⟩) (by assumption) ?rb1
              case yb1 => (intro ww hSw; obtain ⟨q0, q1, q2, q3⟩ := hSw; go_simp <;> with_reducible rfl)
              (try simp only [Act.put, List.setIfInBounds_toArray, List.set_cons_zero, List.set_cons_succ])
              refine wpAnyH_take (i := 1) (v := ?vb2) (idx_of_drop rfl) (by kernel_rfl) (by kernel_rfl) (by kernel_rfl) (fun _ _ _ h => h) (Or.inl ⟨by rfl, ?yb2⟩) (by assumption) ?rb2
              case yb2 => (intro ww hSw; obtain ⟨q0, q1, q2, q3⟩ := hSw; go_simp <;> with_reducible rfl)
              (try simp only [Act.put, List.setIfInBounds_toArray, List.set_cons_zero, List.set_cons_succ])
              refine wpAnyH_take (i := 2) (v := ?vb3) (idx_of_drop rfl) (by kernel_rfl) (by kernel_rfl) (by kernel_rfl) (fun _ _ _ h => h) (Or.inl ⟨by rfl, ?yb3⟩) (by assumption) ?rb3
              case yb3 => (intro ww hSw; obtain ⟨q0, q1, q2, q3⟩ := hSw; go_simp <;> with_reducible rfl)
              (try simp only [Act.put, List.setIfInBounds_toArray, List.set_cons_zero, List.set_cons_succ])
              refine wpAnyH_take (i := 3) (v := ?vb4) (idx_of_drop rfl) (by kernel_rfl) (by kernel_rfl) (by kernel_rfl) (fun _ _ _ h => h) (Or.inl ⟨by rfl, ?yb4⟩) (by assumption) ?rb4
              case yb4 => (intro ww hSw; obtain ⟨q0, q1, q2, q3⟩ := hSw; go_simp <;> with_reducible rfl)
              (try simp only [Act.put, List.setIfInBounds_toArray, List.set_cons_zero, List.set_cons_succ])
              refine wpAnyH_take (i := 6) (v := ?vb5) (idx_of_drop rfl) (by kernel_rfl) (by kernel_rfl) (by kernel_rfl) (fun _ _ _ h => h) (Or.inl ⟨by rfl, ?yb5⟩) (by assumption) ?rb5
              case yb5 => (intro ww hSw; obtain ⟨q0, q1, q2, q3⟩ := hSw; go_simp <;> with_reducible rfl)
              (try simp only [Act.put, List.setIfInBounds_toArray, List.set_cons_zero, List.set_cons_succ])
              refine wpAnyH_take (i := 7) (v := ?vb6) (idx_of_drop rfl) (by kernel_rfl) (by kernel_rfl) (by kernel_rfl) (fun _ _ _ h => h) (Or.inl ⟨by rfl, ?yb6⟩) (by assumption) ?rb6
              case yb6 => (intro ww hSw; obtain ⟨q0, q1, q2, q3⟩ := hSw; go_simp <;> with_reducible rfl)
              (try simp only [Act.put, List.setIfInBounds_toArray, List.set_cons_zero, List.set_cons_succ])
              refine wpAnyH_ready (rs := [4]) (by kernel_rfl) (by simp) ?_
              refine AllReadyH.cons (idx_of_drop rfl) (fun K hK => ?sb7) ?mb7
              case sb7 =>
                go_simp
                refine (rnumber_at f.mode.toNat _ wd.drew (by first | omega | (simp only [IntKind.wrap_u64]; omega)) (by omega)).mono ?_
                rintro e w4 ⟨v4, rfl, ho, hf, hb⟩
                obtain ⟨A4, c4, rfl, hnm⟩ := nm_make OD.out ho hf
                have N4 := Lib.hid hnm; have O4 := Lib.hid (OD.out.below hb); have B4 := Lib.hid (BD.out.trans (hb.mono BD.out.size))
                clear ho hf hb hnm
                refine hK.out _ _ (by exact O4.out.c) (fun hHeld => ?_)
                clear hK K
                (try simp only [Act.put, List.setIfInBounds_toArray, List.set_cons_zero, List.set_cons_succ])
                refine wpAnyH_ready (rs := [5]) (by kernel_rfl) (by simp) ?_
                refine AllReadyH.cons (idx_of_drop rfl) (fun K hK => ?sb8) ?mb8
                case sb8 =>
                  refine step_append_reads rfl (.tmp 40) (.tmp 44) (by rfl) vd (L ++ numb f.name.size ++ nums f.name).length (numb f.mode.toNat).length c4 A4 (bts (L ++ numb f.name.size ++ nums f.name)) (numb f.mode.toNat) (by rfl) (by rfl) O4.out.row N4.out.rd (by have h1 := HLEN.out; have h2 := HNL.out; (try simp only [List.length_append, length_nums]); omega) ?_
                  intro v5' w5' ho hg
                  have t5 := O4.out.grow rfl ho hg
                  have O5 := Lib.hid t5.1; have B5 := Lib.hid (B4.out.trans t5.2)
                  clear ho hg t5
                  refine hK.out _ _ (by exact O5.out.c) (fun hHeld => ?_)
                  clear hK K
                  (try simp only [Act.put, List.setIfInBounds_toArray, List.set_cons_zero, List.set_cons_succ])
                  refine wpAnyH_ready (rs := [8]) (by kernel_rfl) (by simp) ?_
                  refine AllReadyH.cons (idx_of_drop rfl) (fun K hK => ?sb9) ?mb9
                  case sb9 =>
                    go_simp
                    refine (rtime_any f.time w5' HT.out.1 HT.out.2).mono ?_
                    rintro e w8 ⟨rfl, hw8⟩
                    rw [hw8]
                    clear hw8 w8
                    refine hK.out _ _ (by exact O5.out.c) (fun hHeld => ?_)
                    clear hK K
                    (try simp only [Act.put, List.setIfInBounds_toArray, List.set_cons_zero, List.set_cons_succ])
                    refine wpAnyH_ready (rs := [9]) (by kernel_rfl) (by simp) ?_
                    refine AllReadyH.cons (idx_of_drop rfl) (fun K hK => ?sb10) ?mb10
                    case sb10 =>
                      go_simp
                      refine (rnumber_at (zig f.time) _ w5' rfl HZL.out).mono ?_
                      rintro e w9 ⟨v9, rfl, ho, hf, hb⟩
                      obtain ⟨A9, c9, rfl, hnm⟩ := nm_make O5.out ho hf
                      have N9 := Lib.hid hnm; have O9 := Lib.hid (O5.out.below hb); have B9 := Lib.hid (B5.out.trans (hb.mono B5.out.size))
                      clear ho hf hb hnm
                      refine hK.out _ _ (by exact O9.out.c) (fun hHeld => ?_)
                      clear hK K
                      (try simp only [Act.put, List.setIfInBounds_toArray, List.set_cons_zero, List.set_cons_succ])
                      refine wpAnyH_ready (rs := [10]) (by kernel_rfl) (by simp) ?_
                      refine AllReadyH.cons (idx_of_drop rfl) (fun K hK => ?sb11) ?mb11
                      case sb11 =>
                        refine step_append_reads rfl (.tmp 45) (.tmp 49) (by rfl) v5' ((L ++ numb f.name.size ++ nums f.name) ++ numb f.mode.toNat).length (numb (zig f.time)).length c9 A9 (bts ((L ++ numb f.name.size ++ nums f.name) ++ numb f.mode.toNat)) (numb (zig f.time)) (by rfl) (by rfl) O9.out.row N9.out.rd (by have h1 := HLEN.out; have h2 := HNL.out; (try simp only [List.length_append, length_nums]); omega) ?_
                        intro vg wg ho hg
                        have tg := O9.out.grow rfl ho hg
                        have OG := Lib.hid tg.1; have BG := Lib.hid (B9.out.trans tg.2)
                        clear ho hg tg
                        refine hK.out _ _ (by exact OG.out.c) (fun hHeld => ?_)
                        clear hK K
                        (try simp only [Act.put, List.setIfInBounds_toArray, List.set_cons_zero, List.set_cons_succ])
                        refine wpAnyH_take (i := 11) (v := ?vb12) (idx_of_drop rfl) (by kernel_rfl) (by kernel_rfl) (by kernel_rfl) (fun _ _ _ h => h) (Or.inl ⟨by rfl, ?yb12⟩) (by assumption) ?rb12
                        case yb12 => (intro ww hSw; obtain ⟨q0, q1, q2, q3⟩ := hSw; go_simp <;> with_reducible rfl)
                        (try simp only [Act.put, List.setIfInBounds_toArray, List.set_cons_zero, List.set_cons_succ])
                        refine wpAnyH_done (by kernel_rfl) ?_ _
                        rename_i hH; clear hH
                        obtain ⟨LG, hLG⟩ : ∃ LG, L ++ numb f.name.size ++ nums f.name ++ numb f.mode.toNat ++ numb (zig f.time) = LG := ⟨_, rfl⟩
                        rw [hLG] at OG
                        have hlg : LG.length ≤ 400000000 := by
                          have h1 := HLEN.out
                          have h2 := HNL.out
                          rw [← hLG]
                          simp only [List.length_append, length_nums]
                          omega
                        have HLG := Lib.hid hLG; have HLGN := Lib.hid hlg
                        clear hLG hlg
                        obtain ⟨z0, z1, z2, z3⟩ := OG.out.c
                        go_wp2_with fail
                        refine (rnumber_at f.body.length _ wg (by have := HLB.out; omega) (by have := HLB.out; omega)).mono ?_
                        rintro e wk ⟨vk, rfl, ho, hf, hb⟩
                        obtain ⟨Ak, ck2, rfl, hnm⟩ := nm_make OG.out ho hf
                        have NK := Lib.hid hnm; have OK := Lib.hid (OG.out.below hb); have BK := Lib.hid (BG.out.trans (hb.mono BG.out.size))
                        have HNK : Hid ((numb f.body.length).length ≤ 10) := (numb64 (by have := HLB.out; omega) : (numb f.body.length).length ≤ 10)
                        clear ho hf hb hnm z0 z1 z2 z3
                        go_wp2_with (at_builtin; refine wpList_append_reads rfl (.tmp 51) (.tmp 56) 25 5 rfl Tryd.underlying25 info5 vg LG.length (numb f.body.length).length ck2 Ak (bts LG) (numb f.body.length) rfl rfl OK.out.row NK.out.rd (by have h1 := HLGN.out; have h2 := HNK.out; omega) ?_; intro vm wm hown hfr hloc; have OM := Lib.hid hown; have GM : Hid (Grew vg vm wk wm) := (⟨hfr, hloc.imp id fun e => ⟨_, e, Nat.le_refl _⟩⟩ : Grew vg vm wk wm); clear hown hfr hloc)
                        go_roundw
                        case rel =>
                          have tm := OK.out.grow rfl OM.out GM.out
                          refine ⟨k + 1, by go_num, by omega, ?_, tm.1.fr, BK.out.trans tm.2⟩
                          show World.ownsRow _ _ _ _ _ _ _
                          have e : numb n ++ headsB (gs.take (k + 1)) = LG ++ numb f.body.length := by
                            rw [HTS.out, headsB_snoc, ← List.append_assoc, HL.out, ← HLG.out]
                            unfold headB
                            simp only [List.append_assoc]
                          rw [e]
                          exact tm.1.row
                        case measure => simp [intOf]; omega
                      exact AllReadyH.nil
                    exact AllReadyH.nil
                  exact AllReadyH.nil
                exact AllReadyH.nil
              exact AllReadyH.nil
            exact AllReadyH.nil
          exact AllReadyH.nil
        exact AllReadyH.nil
      · have hkn2 : k = n := by omega
        subst hkn2
        have ht : gs.take k = gs := List.take_of_length_le (by have := HGL.out; omega)
        rw [ht] at HO5
        clear ht
        go_wp2_with fail
        clear HO3 HF3 HB3
        go_loopw [5, 8] (fun u5 u8 wr => ∃ j : Nat, u8 = .int .i64 j ∧ (j : Int) ≤ k ∧ Hid (wr.ownsRow 0 5 1 u5 (numb k ++ headsB gs ++ bodiesB (gs.take j)).length (bts (numb k ++ headsB gs ++ bodiesB (gs.take j)))) ∧ Hid (From w2.heap.size u5) ∧ Hid (Below w2.heap.size w2 wr)) (fun _ u8 _ => k - (intOf u8).toNat)
        case atStart =>
          refine ⟨0, rfl, by omega, ?_, HF5.out, HBL.out⟩
          show World.ownsRow _ _ _ _ _ _ _
          rw [show numb k ++ headsB gs ++ bodiesB (gs.take 0) = numb k ++ headsB gs by simp [bodiesB]]
          exact HO5.out
        case round =>
          clear HO5 HF5 HBL
          obtain ⟨j, rfl, hjk, HO5, HF5, HBL⟩ := hrel
          by_cases hj : (j : Int) < k
          · obtain ⟨b, o, A1, n1, c1, rfl, hr1, hc1⟩ := HRD.out.load (j := j) (by omega)
            have q3 := (hc1 wr HBL.out).2.2.2
            have hjl : j < gs.length := by have := HGL.out; omega
            have hmem : gs.getD j default ∈ fs := HMEM.out _ (by rw [List.getD_eq_getElem?_getD, List.getElem?_eq_getElem hjl]; exact List.getElem_mem _)
            have hfb := HB.out _ hmem
            have hts := take_snoc hjl
            have hr6 := hr1.same HBL.out
            obtain ⟨f, hfe⟩ : ∃ f, gs.getD j default = f := ⟨_, rfl⟩
            rw [hfe] at hfb hts hr6
            obtain ⟨L, hL⟩ : ∃ L, numb k ++ headsB gs ++ bodiesB (gs.take j) = L := ⟨_, rfl⟩
            rw [hL] at HO5
            have hlen : L.length ≤ 600000000 := by
              have hgl : (gs.take j).length = j := by rw [List.length_take]; omega
              have h1 := headsB_len gs (fun f hf => HOK.out f (HMEM.out f hf)) (fun f hf => HB.out f (HMEM.out f hf)) (fun f hf => HS.out f (HMEM.out f hf))
              have h2 := numb64 (n := k) (by omega)
              have h3 := bodiesB_len (gs.take j) (fun f hf => HB.out f (HMEM.out f (List.mem_of_mem_take hf)))
              rw [← hL, List.length_append, List.length_append]
              have := HGL.out
              omega
            have HL := Lib.hid hL; have HLEN := Lib.hid hlen; have HR6 := Lib.hid hr6; have HTS := Lib.hid hts
            have HLB : Hid (n1 = f.body.length) := hr6.1.symm
            have HFB := Lib.hid hfb
            clear hc1 hr1 hjl hmem hfb hts hr6 hfe hL hlen
            go_wp2_with (at_builtin; refine wpList_append_reads rfl (.tmp 64) (.tmp 69) 25 5 rfl Tryd.underlying25 info5 u5 L.length n1 c1 A1 (bts L) f.body rfl rfl HO5.out HR6.out (by have h1 := HLEN.out; have h2 := HLB.out; have h3 := HFB.out; omega) ?_; intro v9 w9 hown hfr hloc; have O9 := Lib.hid hown; have G9 : Hid (Grew u5 v9 wr w9) := (⟨hfr, hloc.imp id fun e => ⟨_, e, Nat.le_refl _⟩⟩ : Grew u5 v9 wr w9); clear hown hfr hloc)
            go_roundw
            case rel =>
              refine ⟨j + 1, by go_num, by omega, ?_, HF5.out.grew G9.out HBL.out.size, HBL.out.trans (G9.out.below HF5.out HBL.out.size)⟩
              show World.ownsRow _ _ _ _ _ _ _
              rw [HTS.out, bodiesB_snoc, ← List.append_assoc, HL.out]
              exact own_app HLB.out.symm O9.out
            case measure => simp [intOf]; omega
          · have hjk2 : j = k := by omega
            have ht : gs.take j = gs := List.take_of_length_le (by have := HGL.out; omega)
            rw [ht] at HO5
            clear ht
            go_wp2_with fail
            go_ret2
            have hfrom : From w.heap.size u5 := fun j hj => by
              have h1 := HF5.out j hj
              have h2 := HB2.out.size
              omega
            refine ⟨⟨fun h => absurd rfl h, fun _ => ⟨u5, gs, rfl, HSTB.out, ?_, hfrom⟩⟩, HB2.out.trans (HBL.out.mono HB2.out.size)⟩
            unfold encB
            rw [HGL.out]
            exact HO5.out
  · have HD : Hid (¬ ck = 0) := h0
    go_enter Tryd.func14, Tryd.ntmps14
    go_wp2_with fail
    refine HCK.out.mono ?_
    rintro e w1 ⟨rfl, hs1⟩
    have HS1 := Lib.hid hs1; clear hs1
    go_wp2_with fail
    go_ret2
    exact ⟨⟨fun _ => rfl, fun h => absurd h HD.out⟩, below_fr HS1.out⟩
end Go.Proofs.YtlgonkopojancaaDoor
