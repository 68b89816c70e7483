/- The walk of BitsBack. -/
import Derived.Test.YtghahbododnafaaBackPure
import Derived.StillTailTactics
namespace Go.Proofs.Ytghahbododnafaa
open Go.RowKit
open Bt

theorem info36 : (Try.prog.info? 36).map (fun i => (i.zero, i.size, i.bytes)) = some (some (.agg #[.int .u64 0, .int .i64 0, .bool false]), 3, 24) := by kernel_rfl

theorem news_cells (w : World) (ys : List Value) (e : TypeId) : ∀ j u, ys[j]? = some u → (w.alloc (.cells ys.toArray e)).cell? ((⟨w.heap.size, 0, none⟩ : Addr).add j) = some u := by
  intro j u hj
  have e1 : (⟨w.heap.size, 0, none⟩ : Addr).add j = ⟨w.heap.size, j, none⟩ := by unfold Addr.add; split <;> simp_all
  rw [e1, blk_cell (blk_new w _)]
  simpa using hj

/-- append of one element of several cells onto a row of the call's own, in a walk -/
theorem wpList_append_cells {P : Program} {ops : Array Oper} {rest : List Oper} {o : Oper} {a : Act} {w0 : World} {Q : Exit → Act → World → Prop} {ys : List Value} {e : TypeId}
    (hg : o.guard = none) (s y : Operand) (t : TypeId) (ho : o.op = Op.call { callee := Callee.builtin Builtin.append, args := #[s, y], argTypes := #[t, t] })
    (i : TypeInfo) (z : Value) (size bytes : Nat) (ht : P.underlying t = some (.slice e)) (hi : P.info? e = some i) (hz : i.zero = some z) (hsize : i.size = size) (hby : i.bytes = bytes) (hzs : z.cells.size = size) (hsz : 0 < size)
    (v : Value) (n : Nat) (xs : List Value) (hs : a.eval s = v) (hy : a.eval y = .slice (some ⟨w0.heap.size, 0, none⟩) 1 1) (hown : w0.ownsRow 0 e size v n xs) (hl : ys.length = size) (hx1 : ∀ u ∈ ys, u.oneCell' = true) (hb0 : 0 < bytes) (hbytes : (n + 1) * bytes ≤ 140737488355328)
    (h : ∀ v' w', w'.ownsRow 0 e size v' (n + 1) (xs ++ ys) → Fr (fun k => some k = v.ownBlock) w0 w' → (v'.ownBlock = v.ownBlock ∨ ∃ j, v'.ownBlock = some j ∧ w0.heap.size ≤ j) → wpList P ops Q rest (a.put o.dst v') w') :
    wpList P ops Q (o :: rest) a (w0.alloc (.cells ys.toArray e)) := by
  have hlen : n + 1 ≤ 140737488355328 := Nat.le_trans (Nat.le_mul_of_pos_right _ hb0) hbytes
  refine wpList_append_own_at _ hg s y t ho 0 e i z size bytes ht hi hz hsize hby hzs hsz v n xs hs (hown.alloc _) ⟨w0.heap.size, 0, none⟩ 1 1 ys hy (by rw [hl]; simp) (news_cells w0 ys e) hx1 (by simp only [maxLen]; omega) hbytes (Nat.zero_le _) ?_
  intro v' w' h1 h2 _ h4
  refine h v' w' h1 (((Fr.refl (fun _ => False) w0).alloc _).trans (Fr.of_grown h2) (fun _ _ h => h.elim) (fun _ _ h => h)) ?_
  rcases h4 with h4 | h4
  · exact .inl h4
  · exact .inr ⟨_, h4, by simp⟩

theorem one3 (a b : Int) (c : Bool) : ∀ u ∈ [Value.int .u64 a, Value.int .i64 b, Value.bool c], u.oneCell' = true := by
  intro u hu
  simp at hu
  rcases hu with rfl | rfl | rfl <;> rfl

/-- a row of calls stays while a Writer turns -/
theorem calls_turn {w0 w : World} {g n : Nat} {v0 v vg : Value} {L : List Bool} {xs : List Value} (h : w0.ownsRow 0 36 3 vg n xs) (hw : IsW w0 g v0 L) (t : WTurn w0 w g v0 v) : w.ownsRow 0 36 3 vg n xs := by
  refine t.fr.own h (fun j hj e => ?_)
  rcases e with e | e
  · subst e; exact own_ne h hw.blk (by decide) hj
  · exact own_own_ne h hw.own (by decide) hj e.symm
/-- a Writer stays while a row of calls turns -/
theorem isW_calls {w0 w : World} {g n : Nat} {v vg : Value} {L : List Bool} {xs : List Value} (h : IsW w0 g v L) (hg : w0.ownsRow 0 36 3 vg n xs) (f : Fr (fun k => some k = vg.ownBlock) w0 w) : IsW w g v L := by
  refine h.fr f (fun e => own_ne hg h.blk (by decide) e.symm) (fun j hj e => own_own_ne h.own hg (by decide) hj e.symm)

theorem own_cellsN {w : World} {base n sz : Nat} {e : TypeId} {v : Value} {xs : List Value} (h : w.ownsRow base e sz v n xs) (hn : 0 < n) : ∃ b c, v = .slice (some ⟨b, 0, none⟩) n c ∧ ∀ j u, xs[j]? = some u → w.cell? ⟨b, j, none⟩ = some u := by
  rcases h.2 with ⟨rfl, rfl⟩ | ⟨g, cap, cur, rfl, _⟩
  · omega
  · refine ⟨g, cap, rfl, fun j u hj => ?_⟩
    have := h.cells (g := g) (by simp [Value.ownBlock]) j u hj
    rw [← this]
    congr 1
    unfold Addr.add
    split <;> simp_all

set_option maxHeartbeats 8000000 in
theorem bitsBack_walk (w : World) (a0 : Option Addr) (len0 cap0 : Nat) (cl : Nat → Int × Int × Bool) (hr : ReadsCalls w a0 len0 cl) :
    Calls Try.prog 6 #[.slice a0 len0 cap0] w fun e w' => e = .returned (.bool true) ∧ Below w.heap.size w w' := by
  have HR := Lib.hid hr; clear hr
  go_enter Try.func6, Try.ntmps6
  go_wp2_with (go_at_call 9; refine (awake_any w).mono ?_; rintro e w1 ⟨rfl, hb⟩; have HB := Lib.hid hb; clear hb)
  have hg1 : w.heap.size ≤ w1.heap.size := HB.out.size
  have hsmall := HR.out.small
  have hnew := Lib.hid (isW_new w1)
  have hbnew := Lib.hid (HB.out.alloc hg1 (.cells #[.slice none 0 0, .int .u64 0, .int .i64 0] 28))
  generalize w1.heap.size = gw at *
  go_loopw [5, 6] (fun good i wr => ∃ (k : Nat) (v : Value) (G : List Call3), k ≤ len0 ∧ k ≤ 100 ∧ i = .int .i64 k ∧ G.length ≤ k ∧ AllGood G ∧ (bitsAll G).length ≤ 32 * k ∧ IsW wr gw v (bitsAll G) ∧ wr.ownsRow 0 36 3 good G.length (flat G) ∧ From w.heap.size v ∧ From w.heap.size good ∧ Below w.heap.size w wr) (fun _ i _ => len0 - (intOf i).toNat)
  case atStart =>
    exact ⟨0, _, [], Nat.zero_le _, Nat.zero_le _, rfl, Nat.le_refl _, fun c hc => by simp at hc, Nat.le_refl _, hnew.out, World.ownsRow_nil _ _ _ _, From.none _ _ _, From.none _ _ _, hbnew.out⟩
  case round =>
    obtain ⟨k, v, G, hk, hk2, rfl, hGk, hAG, hL, hW, hG, hv, hvg, hbel⟩ := hrel
    by_cases hgo : k < len0 ∧ (k : Int) < 100
    · obtain ⟨hkl, hk100⟩ := hgo
      · obtain ⟨bb, o, rfl, c0, c1, c2⟩ := HR.out.at_ hbel hkl
        have hbb : bb < w.heap.size := by
          obtain ⟨b', o', e', c0', _⟩ := HR.out.at_ (Below.refl _ _) hkl
          injection e' with e'; injection e' with e1 e2; subst e1
          exact World.block_lt_of_cell? _ _ c0'
        have n0 := HR.out.num k hkl
        generalize cl k = call at *
        obtain ⟨num, bits, wh⟩ := call
        simp only at c0 c1 c2 n0
        have HAG := Lib.hid hAG; clear hAG
        have HW := Lib.hid hW; clear hW
        have HBel := Lib.hid hbel; clear hbel
        have HV := Lib.hid hv; clear hv
        have HVG := Lib.hid hvg; clear hvg
        have hbt : (G.length + 1) * 24 ≤ 140737488355328 := by omega
        obtain ⟨Ag, cg, rfl⟩ := own_shape hG
        have HG := Lib.hid hG; clear hG
        by_cases hgood : Good num bits
        · have HP := Lib.hid (fun W h => put_ok gw v (bitsAll G) num bits W n0.1 hgood h (by omega))
          have HGood := Lib.hid hgood; clear hgood
          obtain ⟨i0, hi, hz0, hz1, hz2⟩ := info_parts info36
          go_wp2
          go_still_tail 11, (by kernel_rfl)
          change wpList _ _ _ _ _ wr.drew
          go_wp2_with (first
            | (go_at_call 10; refine (HP.out _ (HW.out.same (Fr.refl _ _).drew)).mono ?_; rintro e w2 ⟨rfl, v2, h2, t2⟩; have TB := t2.below (B := w.heap.size) HBel.out.drew.size (by omega) HV.out; have B2 := HBel.out.drew.trans TB.1; have d0 := (TB.1.cell (p := ⟨bb, o + k * 3, none⟩) hbb).trans c0; have d1 := (TB.1.cell (p := ⟨bb, o + k * 3 + 1, none⟩) hbb).trans c1; have d2 := (TB.1.cell (p := ⟨bb, o + k * 3 + 2, none⟩) hbb).trans c2; have H2 := Lib.hid h2; have HB2 := Lib.hid B2; have HV2 := Lib.hid TB.2; have HG2 := Lib.hid (calls_turn (w0 := wr.drew) HG.out (HW.out.same (Fr.refl _ _).drew) t2); clear h2 t2 TB B2)
            | (at_builtin; refine wpList_append_cells rfl (.tmp 43) (.tmp 48) 23 rfl i0 (.agg #[.int .u64 0, .int .i64 0, .bool false]) 3 24 Try.underlying23 hi hz0 hz1 hz2 rfl (by decide) (.slice Ag G.length cg) G.length (flat G) rfl rfl HG2.out rfl (one3 num bits wh) (by decide) hbt ?_; intro v3 w3 hown3 hfr3 hloc3; have HW3 := Lib.hid (isW_calls H2.out HG2.out hfr3); have HO3 := Lib.hid hown3; have HL3 := Lib.hid hloc3; have HF3 := Lib.hid hfr3; clear hown3 hloc3 hfr3))
          go_roundw
          case rel =>
            have hv3 : From w.heap.size v3 := fun j hj => by
              rcases HL3.out with h | ⟨b, h, hb⟩
              · exact HVG.out j (by rw [← h]; exact hj)
              · rw [h] at hj; injection hj with hj; have := HB2.out.size; omega
            have hB3 : Below w.heap.size w w3 := HB2.out.trans (HF3.out.below _ HB2.out.size (fun j hj e => by have := HVG.out j e.symm; omega))
            have hgd := HGood.out
            refine ⟨k + 1, v2, G ++ [(num, bits, wh)], by omega, by omega, by go_num, by rw [List.length_append]; simp; omega, fun c hc => ?_, ?_, by rw [bitsAll_snoc]; exact HW3.out, ?_, HV2.out, hv3, hB3⟩
            · rcases List.mem_append.1 hc with hc | hc
              · exact HAG.out c hc
              · simp at hc; subst hc; exact ⟨n0.1, hgd⟩
            · rw [bitsAll_snoc, List.length_append, length_bitsOf]
              obtain ⟨h1, h2, _⟩ := hgd
              simp only
              omega
            · rw [List.length_append]
              have e : flat (G ++ [(num, bits, wh)]) = flat G ++ [Value.int .u64 num, Value.int .i64 bits, Value.bool wh] := by simp [flat, callCells]
              rw [e]
              exact HO3.out
          case measure => simp [intOf]; omega
        · have HP := Lib.hid (fun W => put_bad gw num bits W hgood)
          clear hgood
          go_wp2
          go_still_tail 11, (by kernel_rfl)
          change wpList _ _ _ _ _ wr.drew
          go_wp2_with (go_at_call 10; refine (HP.out _).mono ?_; rintro e w2 ⟨rfl, rfl⟩)
          go_roundw
          case rel =>
            have HD : Same wr wr.drew := (Fr.refl _ _).drew
            exact ⟨k + 1, v, G, by omega, by omega, by go_num, by omega, HAG.out, by omega, HW.out.same HD, HD.own HG.out (fun _ _ h => h), HV.out, HVG.out, HBel.out.trans (HD.belowSame HBel.out.size)⟩
          case measure => simp [intOf]; omega
    · have hex : ¬ (k : Int) < len0 ∨ (k < len0 ∧ ¬ (k : Int) < 100) := by omega
      have hL2 : (bitsAll G).length ≤ 3200 := by omega
      have hGl : G.length ≤ 100 := by omega
      have HW := Lib.hid hW; clear hW
      have HBel := Lib.hid hbel; clear hbel
      have HV := Lib.hid hv; clear hv
      have HVG := Lib.hid hvg; clear hvg
      have HAG := Lib.hid hAG; clear hAG
      obtain ⟨Ag, cg, rfl⟩ := own_shape hG
      have HG := Lib.hid hG; clear hG
      clear hL hGk hgo
      rcases hex with hex | ⟨hex, hex2⟩
      all_goals
        go_wp2_with fail
        refine (count_any gw v _ _ HW.out (by omega)).mono ?_
        rintro e w2 ⟨rfl, s2⟩
        have W2 := Lib.hid (HW.out.same s2); have G2 := Lib.hid (s2.own HG.out (fun _ _ h => h)); have B2 := Lib.hid (HBel.out.trans (s2.belowSame HBel.out.size))
        clear s2
        go_wp2_with fail
        refine (wbytes_any gw v _ _ W2.out (by omega)).mono ?_
        rintro e w3 ⟨vb, rfl, h3, s3, f3⟩
        have G3 := Lib.hid (s3.own G2.out (fun _ _ h => h)); have B3 := Lib.hid (B2.out.trans (s3.belowSame B2.out.size))
        obtain ⟨A3, c3, rfl, r3⟩ := own_reads h3
        have hpl := length_pad (bitsAll G)
        have hnw := new_any A3 c3 (pad (bitsAll G)) w3 (by rw [hpl]; exact r3)
        rw [hpl] at hnw
        have HNW := Lib.hid hnw
        have HPL := Lib.hid hpl
        clear s3 h3 f3 r3 hnw hpl
        go_wp2_with fail
        refine HNW.out.mono ?_
        rintro e w4 ⟨rfl, h4, s4⟩
        have R4 := Lib.hid h4; have G4 := Lib.hid (s4.own G3.out (fun _ _ h => h)); have B4 := Lib.hid (B3.out.trans (s4.belowSame B3.out.size))
        have hgr : w.heap.size ≤ w3.heap.size := B3.out.size
        clear h4 s4 HNW
        generalize w3.heap.size = gr at *
        go_wp2_with fail
        go_loopw [10] (fun i wr => ∃ (j : Nat), j ≤ G.length ∧ i = .int .i64 j ∧ IsR wr gr A3 c3 (pad (bitsAll G)) ((bitsAll (G.take j)).length : Nat) ∧ wr.ownsRow 0 36 3 (.slice Ag G.length cg) G.length (flat G) ∧ Below w.heap.size w wr) (fun i _ => G.length - (intOf i).toNat)
        case atStart => exact ⟨0, Nat.zero_le _, rfl, R4.out, G4.out, B4.out⟩
        case round =>
          obtain ⟨j, hj, rfl, hR, hG, hbel⟩ := hrel
          have hle := taken_le G j
          by_cases hjl : j < G.length
          · obtain ⟨bg, cg', he, hc⟩ := own_cellsN hG (by omega)
            injection he with he1 he2 he3
            subst he1; subst he3
            obtain ⟨g0, g1, g2⟩ := flat_get G j hjl
            have d0 := hc _ _ g0; have d1 := hc _ _ g1; have d2 := hc _ _ g2
            clear hc g0 g1 g2
            obtain ⟨hn0, hb0, hb1, hb2⟩ := HAG.out (G.getD j (0, 0, false)) (by rw [List.getD, List.getElem?_eq_getElem hjl]; exact List.getElem_mem hjl)
            have htk := taken G HAG.out j hjl (List.replicate (8 * (((bitsAll G).length + 7) / 8) - (bitsAll G).length) false)
            rw [← unbits_pad] at htk
            have htl := taken_len G j hjl
            have hle1 := taken_le G (j + 1)
            generalize G.getD j (0, 0, false) = call at *
            obtain ⟨num, bits, wh⟩ := call
            simp only at d0 d1 d2 hn0 hb0 hb1 hb2 htk htl
            have ht := take_good gr A3 c3 (pad (bitsAll G)) (bitsAll (G.take j)).length bits wr hR (pad_bytes _) (by rw [HPL.out]; omega) (by rw [HPL.out]; omega) hb0 hb1 (by rw [HPL.out]; omega)
            rw [htk, ← htl] at ht
            have HT := Lib.hid ht
            have hne := own_ne hG hR.blk (by decide)
            have HG' := Lib.hid hG; have HBel' := Lib.hid hbel
            clear ht htk htl hG hbel hR hb2
            go_wp2_with fail
            refine HT.out.mono ?_
            rintro e w5 ⟨rfl, h5, f5⟩
            have R5 := Lib.hid h5; have B5 := Lib.hid (HBel'.out.trans (f5.belowEq HBel'.out.size hgr))
            have G5 := Lib.hid (f5.own HG'.out (fun j hj e => hne (by rw [← e]; exact hj)))
            have e0 := f5.cell d0 (fun e => hne (by rw [← e]; rfl))
            clear h5 f5
            go_wp2_with fail
            go_roundw
            case rel => exact ⟨j + 1, by omega, by go_num, R5.out, G5.out, B5.out⟩
            case measure => simp [intOf]; omega
          · obtain rfl : j = G.length := by omega
            rw [List.take_length] at hR
            have hs := take_short gr A3 c3 (pad (bitsAll G)) (bitsAll G).length 32 wr hR (by rw [HPL.out]; omega) (by rw [HPL.out]; omega) (by decide) (by decide) (by rw [HPL.out]; omega)
            have HS := Lib.hid hs
            have HR5 := Lib.hid hR
            have HBel' := Lib.hid hbel
            clear hs hR hbel hG hle
            go_wp2_with fail
            refine HS.out.mono ?_
            rintro e w5 ⟨rfl, s5⟩
            have R5 := Lib.hid (HR5.out.same s5); have B5 := Lib.hid (HBel'.out.trans (s5.belowSame HBel'.out.size))
            clear s5
            have hl := left_any gr A3 c3 (pad (bitsAll G)) (bitsAll G).length w5 R5.out (by rw [HPL.out]; omega) (by rw [HPL.out]; omega)
            rw [HPL.out] at hl
            have HLf := Lib.hid hl
            clear hl
            go_wp2_with fail
            refine HLf.out.mono ?_
            rintro e w6 ⟨rfl, s6⟩
            have R6 := Lib.hid (R5.out.same s6); have B6 := Lib.hid (B5.out.trans (s6.belowSame B5.out.size))
            clear s6
            have hwh := whole_any gr A3 c3 (pad (bitsAll G)) (bitsAll G).length w6 R6.out (pad_bytes _) (by rw [HPL.out]; omega) (by rw [HPL.out]; omega)
            rw [pad_zeros] at hwh
            have HWh := Lib.hid hwh
            clear hwh
            go_wp2_with fail
            refine HWh.out.mono ?_
            rintro e w7 ⟨rfl, h7, f7⟩
            have B7 := Lib.hid (B6.out.trans (f7.belowEq B6.out.size hgr))
            have hl := left_any gr A3 c3 (pad (bitsAll G)) (up (bitsAll G).length) w7 h7 (by rw [HPL.out]; omega) (by rw [HPL.out]; unfold up; omega)
            rw [HPL.out, show (8 * ((((bitsAll G).length + 7) / 8 : Nat) : Int) - (up (bitsAll G).length : Nat)) = 0 from by unfold up; omega] at hl
            have HLf2 := Lib.hid hl
            clear hl h7 f7
            go_wp2_with fail
            refine HLf2.out.mono ?_
            rintro e w8 ⟨rfl, s8⟩
            have B8 := Lib.hid (B7.out.trans (s8.belowSame B7.out.size))
            clear s8
            go_wp2_with fail
            go_ret
            exact ⟨rfl, B8.out⟩
end Go.Proofs.Ytghahbododnafaa
