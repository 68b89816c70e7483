/- The walk of FilesOwn. -/
import Derived.Test.YtlgonkopojancaaDoorFxTold
import Derived.Test.YtlgonkopojancaaDoorFxBR
namespace Go.Proofs.YtlgonkopojancaaDoor
open Go.RowKit

/-- a row of decoded files, and their bodies, that are written over -/
structure Ow (B n : Nat) (v : Value) (vs : List FV) (w : World) : Prop where
  row : w.ownsRow 0 33 4 v n (flat vs)
  body : ∀ u ∈ vs, 0 < u.n → ∃ g cur y, u.A = some ⟨g, 0, none⟩ ∧ B ≤ g ∧ w.heap[g]? = some (.cells cur 5 (0, 0)) ∧ cur[0]? = some (.int .u8 y)
theorem Ow.same {B n : Nat} {v : Value} {vs : List FV} {w w' : World} (h : Ow B n v vs w) (s : Same w w') : Ow B n v vs w' :=
  ⟨s.own h.row (fun _ _ e => e), fun u hu hn => by
    obtain ⟨g, cur, y, e, hb, hg, hc⟩ := h.body u hu hn
    exact ⟨g, cur, y, e, hb, s.blk hg (fun e => e), hc⟩⟩
theorem Ow.of {B n : Nat} {v : Value} {vs : List FV} {w : World} (ho : w.ownsRow 0 33 4 v n (flat vs)) (hb : BodO B w vs) : Ow B n v vs w :=
  ⟨ho, fun u hu hn => by
    obtain ⟨h1, h2⟩ := hb u hu
    rcases h1.2 with ⟨e, h0⟩ | ⟨g, cap, cur, e, _, hg, hc, hm, hs, ht⟩
    · omega
    · injection e with e1 e2 e3
      have hbl : u.f.body.length = u.n := by have := h1.1; unfold bts at this; simpa using this
      obtain ⟨y, ys, hy⟩ : ∃ y ys, u.f.body = y :: ys := by
        rcases hq : u.f.body with _ | ⟨y, ys⟩
        · rw [hq] at hbl; simp at hbl; omega
        · exact ⟨y, ys, rfl⟩
      refine ⟨g, cur, y, e1, h2 g (by simp [Value.ownBlock, e1]), hg, ?_⟩
      have h3 : (cur.toList.take (u.n * 1))[0]? = (bts u.f.body)[0]? := by rw [ht]
      rw [hy] at h3
      unfold bts at h3
      rw [List.getElem?_take_of_lt (by omega)] at h3
      simpa using h3⟩
theorem Ow.put {B n : Nat} {v : Value} {vs : List FV} {w : World} (h : Ow B n v vs w) {g : Nat} {cur : Array Value} {y : Int} (z : Int) (hg : w.heap[g]? = some (.cells cur 5 (0, 0))) (hc : cur[0]? = some (.int .u8 y)) : Ow B n v vs (w.setCell ⟨g, 0, none⟩ (.int .u8 z)) :=
  ⟨ownsRow_setCell_other h.row (a := ⟨g, 0, none⟩) (own_ne h.row hg (by decide)) _, fun u hu hn => by
    obtain ⟨g', cur', y', e, hb, hg', hc'⟩ := h.body u hu hn
    by_cases hgg : g' = g
    · subst hgg
      rw [hg] at hg'
      injection hg' with hg'
      injection hg' with hg'
      subst hg'
      refine ⟨g', _, z, e, hb, blk_set hg 0 _, ?_⟩
      have := (Array.getElem?_eq_some_iff.1 hc).1
      rw [Array.getElem?_setIfInBounds_self_of_lt this]
    · exact ⟨g', cur', y', e, hb, blk_far hg' (p := ⟨g, 0, none⟩) hgg _, hc'⟩⟩
theorem Ow.load {B n i : Nat} {v : Value} {vs : List FV} {w : World} (h : Ow B n v vs w) (hi : i < n) : ∃ g c, v = .slice (some ⟨g, 0, none⟩) n c ∧ w.cell? ⟨g, i * 4 + 3, none⟩ = some (.slice (vs.getD i default).A (vs.getD i default).n (vs.getD i default).c) ∧ vs.getD i default ∈ vs := by
  obtain ⟨g, c, e, hc⟩ := own_cellsN h.row (by omega)
  have hl : vs.length = n := by have := h.row.1; rw [length_flat] at this; omega
  refine ⟨g, c, e, hc _ _ (flat_at vs i (by omega) 3 _ rfl), ?_⟩
  rw [getD_eq (by omega)]
  exact List.getElem_mem _

set_option maxRecDepth 20000 in
set_option maxHeartbeats 8000000 in
theorem filesOwn_walk (w : World) (m : Int) (hm : w.cell? ⟨0, 0, none⟩ = some (.int .i64 m)) (A : Option Addr) (c : Nat) (fs : List Fi) (hF : Files w A fs.length c fs) (hok : ∀ f ∈ fs, FOk f) :
    Calls Tryd.prog 8 #[.slice A fs.length c] w fun e w' => e = .returned (.bool true) ∧ Below w.heap.size w w' := by
  have HOK := Lib.hid hok
  have F0 : Hid (FRd w A fs.length fs) := hF.1
  have S0 := Lib.hid (St.refl hm)
  clear hm hF hok
  obtain ⟨N, hN⟩ : ∃ N, fs.length = N := ⟨_, rfl⟩
  rw [hN] at F0 ⊢
  have HN := Lib.hid hN
  clear hN
  rcases hfew : fewB fs with _ | _
  · have HFEW := Lib.hid hfew; clear hfew
    go_enter Tryd.func8, Tryd.ntmps8
    go_wp2_with fail
    refine (awake_told S0.out).mono ?_
    rintro e w1 ⟨rfl, st, b⟩
    have S1 := Lib.hid st; have F1 := Lib.hid (F0.out.below b)
    clear st b
    go_wp2_with fail
    refine (few_told S1.out F1.out HOK.out HFEW.out).mono ?_
    rintro e w2 ⟨rfl, st, b⟩
    have S2 := Lib.hid st; have F2 := Lib.hid (F1.out.below b)
    clear st b
    go_wp2_with fail
    go_ret
    exact ⟨rfl, S2.out.bel⟩
  · have HFEW := Lib.hid hfew; clear hfew
    have HW := Lib.hid (few_ok HFEW.out)
    have n60 : (N : Int) ≤ 60 := by have := HW.out.1; have := HN.out; omega
    obtain ⟨ck, hck⟩ : ∃ ck, checkI fs = ck := ⟨_, rfl⟩
    have HCK := Lib.hid hck; clear hck
    go_enter Tryd.func8, Tryd.ntmps8
    go_wp2_with fail
    refine (awake_told S0.out).mono ?_
    rintro e w1 ⟨rfl, st, b⟩
    have S1 := Lib.hid st; have F1 := Lib.hid (F0.out.below b)
    clear st b
    go_wp2_with fail
    refine (few_told S1.out F1.out HOK.out HFEW.out).mono ?_
    rintro e w2 ⟨rfl, st, b⟩
    have S2 := Lib.hid st; have F2 := Lib.hid (F1.out.below b)
    clear st b
    go_wp2_with fail
    refine (check_told S2.out F2.out (by omega) HW.out.body HOK.out HCK.out).mono ?_
    rintro e w3 ⟨rfl, st, b⟩
    have S3 := Lib.hid st; have F3 := Lib.hid (F2.out.below b)
    clear st b
    clear S0 S1 S2 F0 F1 F2
    by_cases h0 : ck = 0
    · subst h0
      by_cases hN0 : N = 0
      · have hN1 : ((N : Int) == 0) = true := by rw [hN0]; rfl
        subst hN0
        go_wp2_with fail
        go_ret
        exact ⟨rfl, S3.out.bel⟩
      · have hN1 : ((N : Int) == 0) = false := by rw [beq_eq_false_iff_ne]; omega
        have npos : (0 : Int) < N := by omega
        obtain ⟨b, o, Ab, nb, cb, rfl, _, hl⟩ := F3.out.load (j := 0) (by omega)
        have k3 := (hl w3 (Below.refl _ _)).2.2.2
        rw [Nat.zero_mul, Nat.add_zero] at k3
        clear hl hN0
        by_cases hnb : nb = 0
        · subst hnb
          go_wp2_with fail
          go_ret
          exact ⟨rfl, S3.out.bel⟩
        · have hnb1 : ((nb : Int) == 0) = false := by rw [beq_eq_false_iff_ne]; omega
          go_wp2_with fail
          clear k3 hnb1 hnb
          refine (enc_told S3.out F3.out (by omega) HW.out.body HW.out.name HOK.out HCK.out).mono ?_
          rintro e w4 ⟨gs, A4, c4, rfl, hst, hr, st, b4⟩
          obtain ⟨hd, hbt, hln⟩ := decP_sorted HW.out HOK.out HCK.out hst
          obtain ⟨X, hX⟩ : ∃ X, encB gs = X := ⟨_, rfl⟩
          rw [hX] at hr hln hbt hd ⊢
          obtain ⟨E, hE⟩ : ∃ E, X.length = E := ⟨_, rfl⟩
          rw [hE] at hr hln ⊢
          have HP := Lib.hid (stable_perm hst)
          have S4 := Lib.hid st; have F4 := Lib.hid (F3.out.below b4)
          have HR := Lib.hid hr; have HD := Lib.hid hd; have HBT := Lib.hid hbt; have HLN := Lib.hid hln
          clear st b4 hst hr hd hbt hln hE hX
          go_wp2_with fail
          refine (dec_any A4 E c4 X m w4 S4.out.mx HR.out.1 HR.out.2.1 HR.out.2.2 HBT.out (by have := HLN.out; omega)).mono ?_
          rintro e w5 ⟨hp, b5⟩
          unfold DecPost at hp
          rw [HD.out] at hp
          obtain ⟨v5, vs, rfl, hvs, ho, _, hbo⟩ := hp
          have hgl : gs.length = N := by rw [HP.out.length_eq]; exact HN.out
          rw [hgl] at ho
          have how := Ow.of ho hbo
          obtain ⟨g5, c5, rfl, _⟩ := how.load (i := 0) (by omega)
          have HOW := Lib.hid how; have HB5 := Lib.hid b5
          have c1 := conv_reads (c := c4) (HR.out.below b5).1
          clear ho hbo hgl how b5 hvs
          go_wp2_with fail
          clear c1
          go_loopw [9] (fun v9 wr => ∃ i : Nat, v9 = .int .i64 i ∧ Hid (Ow w4.heap.size N (.slice (some ⟨g5, 0, none⟩) N c5) vs wr) ∧ Hid (Below w4.heap.size w4 wr)) (fun v9 _ => N - (intOf v9).toNat)
          case atStart => exact ⟨0, rfl, HOW.out, HB5.out⟩
          case round =>
            obtain ⟨i, rfl, HO, HB⟩ := hrel
            by_cases hi : (i : Int) < N
            · obtain ⟨g', c', e', k1, hmem⟩ := HO.out.load (i := i) (by omega)
              injection e' with e1 _ e3
              injection e1 with e1
              injection e1 with e1
              subst e1; subst e3
              obtain ⟨u, hu⟩ : ∃ u, vs.getD i default = u := ⟨_, rfl⟩
              rw [hu] at k1 hmem
              by_cases hun : u.n = 0
              · rw [hun] at k1
                clear hun hu hmem
                go_wp2_with fail
                go_roundw
                case rel => exact ⟨i + 1, by go_num, HO.out, HB.out⟩
                case measure => simp [intOf]; omega
              · obtain ⟨g, cur, y, hA, hBg, hg, hc0⟩ := HO.out.body u hmem (by omega)
                rw [hA] at k1
                obtain ⟨q, hq⟩ : ∃ q, u.n = q := ⟨_, rfl⟩
                rw [hq] at k1 hun
                obtain ⟨d, hd⟩ : ∃ d, u.c = d := ⟨_, rfl⟩
                rw [hd] at k1
                have hq1 : (0 : Int) < q := by omega
                have k2 : wr.cell? ⟨g, 0, none⟩ = some (.int .u8 y) := by rw [blk_cell hg]; exact hc0
                have k2f : wr.frozen? ⟨g, 0, none⟩ = false := blk_frozen hg _
                have HG := Lib.hid hg; have HC0 := Lib.hid hc0; have HBG := Lib.hid hBg
                clear hun hu hmem hA hBg hg hc0 hq hd
                go_wp2_with fail
                go_region
                go_wp2_with fail
                go_roundw
                case rel =>
                  have hbs : Below w4.heap.size w4 (wr.setCell ⟨g, 0, none⟩ (.int .u8 (bits BinOp.xor .u8 y 1))) := HB.out.setCell (p := ⟨g, 0, none⟩) HBG.out _
                  exact ⟨i + 1, by go_num, (HO.out.put _ HG.out HC0.out).same (Fr.refl _ _).drew, hbs.trans ((below_same (Fr.refl _ _).drew).mono hbs.size)⟩
                case measure => simp [intOf]; omega
            · have SR := Lib.hid (S4.out.step HB.out); have FR := Lib.hid (F4.out.below HB.out); have RR := Lib.hid (HR.out.below HB.out)
              clear HOW HB5 HO
              go_wp2_with fail
              refine (sort_walk fs _ N c wr FR.out (by omega) HW.out.body (stable_calls N (by omega))).mono ?_
              rintro e w6 ⟨v6, us, rfl, ho, hfr, b6, hbo, hst⟩
              obtain ⟨g6, c6, rfl, _⟩ := own_cellsN ho (by omega)
              have hul : us.length = N := by have := ho.1; rw [length_flat] at this; omega
              have k1 := ho.cellAt 0 (by omega)
              rw [flat_at us 0 (by omega) 0 _ rfl] at k1
              have k1f := ho.frozenAt 0
              obtain ⟨n0, hn0⟩ : ∃ s, (us.getD 0 default).f.name = s := ⟨_, rfl⟩
              rw [hn0] at k1
              have hn1 : ((us.map FV.f).getD 0 default).name = n0 := by
                rw [← hn0, getD_eq (by rw [List.length_map]; omega), getD_eq (show 0 < us.length by omega), List.getElem_map]
              have HN1 := Lib.hid hn1; have HST := Lib.hid hst
              have HK : Hid (∀ x, Below wr.heap.size wr (w6.setCell ⟨g6, 0, none⟩ x)) := (fun x => b6.setCell (p := ⟨g6, 0, none⟩) (hfr g6 (by simp [Value.ownBlock])) x : ∀ x, Below wr.heap.size wr (w6.setCell ⟨g6, 0, none⟩ x))
              clear ho hfr b6 hbo hst hul hn0 hn1
              go_wp2_with fail
              clear k1 k1f
              refine (sort_told (SR.out.step (HK.out _)) (FR.out.below (HK.out _)) (by omega) HW.out.body).mono ?_
              rintro e w7 ⟨hs, A7, c7, rfl, hst, hf, st, b7⟩
              obtain rfl : us.map FV.f = hs := stable_unique HST.out hst
              have c1 := conv_reads (c := c4) ((RR.out.below (HK.out _)).below b7).1
              have S7 := Lib.hid st
              obtain ⟨b2, o2, Ac, nc, cc, rfl, _, hl2⟩ := hf.load (j := 0) (by omega)
              have k2 := (hl2 w7 (Below.refl _ _)).1
              rw [HN1.out, Nat.zero_mul, Nat.add_zero] at k2
              clear hst hf st b7 hl2
              go_wp2_with fail
              go_ret
              exact ⟨rfl, S7.out.bel⟩
    · have hne : (ck != 0) = true := by simpa using h0
      go_wp2_with fail
      go_ret
      exact ⟨rfl, S3.out.bel⟩
end Go.Proofs.YtlgonkopojancaaDoor
