/- The walk of Find. -/
import Derived.Test.YtclamfdmgflofaaMxKnow
import Derived.Deep.OwnRows
namespace Go.Proofs.Ytclamfdmgflofaa
open Go.RowKit
open Mx

theorem info3 : (Try.prog.info? 3).map (fun i => (i.zero, i.size, i.bytes)) = some (some (.int .i64 0), 1, 8) := by kernel_rfl

/-- a row is none of the finder's blocks -/
theorem own_ne_map {w : World} {base : Nat} {e : TypeId} {sz n g : Nat} {v : Value} {xs : List Value} {es : Array MapEntry} {cl : Nat} (h : w.ownsRow base e sz v n xs) (hg : w.heap[g]? = some (.map es cl)) : v.ownBlock ≠ some g := by
  rcases h.2 with ⟨rfl, _⟩ | ⟨g', cap, cur, rfl, _, hh, _⟩
  · simp [Value.ownBlock]
  · intro he
    have : g' = g := by simpa [Value.ownBlock] using he
    subst this
    rw [hg] at hh
    injection hh with hh
    cases hh

/-- as wpList_append_cells; where the new block lies is a number of one's own -/
theorem wpList_append_cellsH {P : Program} {ops : Array Oper} {rest : List Oper} {o : Oper} {a : Act} {w0 : World} {Q : Exit → Act → World → Prop} {ys : List Value} {e : TypeId} (H : Nat) (hH : w0.heap.size = H)
    (hg : o.guard = none) (s y : Operand) (t : TypeId) (ho : o.op = Op.call { callee := Callee.builtin Builtin.append, args := #[s, y], argTypes := #[t, t] })
    (i : TypeInfo) (z : Value) (size bytes : Nat) (ht : P.underlying t = some (.slice e)) (hi : P.info? e = some i) (hz : i.zero = some z) (hsize : i.size = size) (hby : i.bytes = bytes) (hzs : z.cells.size = size) (hsz : 0 < size)
    (v : Value) (n : Nat) (xs : List Value) (hs : a.eval s = v) (hy : a.eval y = .slice (some ⟨H, 0, none⟩) 1 1) (hown : w0.ownsRow 0 e size v n xs) (hl : ys.length = size) (hx1 : ∀ u ∈ ys, u.oneCell' = true) (hb0 : 0 < bytes) (hbytes : (n + 1) * bytes ≤ 140737488355328)
    (h : ∀ v' w', w'.ownsRow 0 e size v' (n + 1) (xs ++ ys) → Fr (fun k => some k = v.ownBlock) w0 w' → (v'.ownBlock = v.ownBlock ∨ ∃ j, v'.ownBlock = some j ∧ w0.heap.size ≤ j) → wpList P ops Q rest (a.put o.dst v') w') :
    wpList P ops Q (o :: rest) a (w0.alloc (.cells ys.toArray e)) := by
  subst hH
  exact wpList_append_cells hg s y t ho i z size bytes ht hi hz hsize hby hzs hsz v n xs hs hy hown hl hx1 hb0 hbytes h
theorem know_any (g : Nat) (A : Option Addr) (c : Nat) (b : List Int) (n BM BK i : Nat) (w : World) (hf : Fin w g A c b n BM BK i) (hb : ∀ x ∈ b, (Lit.int .u8 x).wf = true) (hl : n ≤ 2000) (hc : n ≤ c) (hi : i < n) :
    Calls Try.prog 19 #[.pointer (some ⟨g, 0, none⟩), .int .i64 i] w fun e w' => e = .returned (.tuple #[]) ∧ Fin w' g A c b n BM BK (i + 1) ∧ Fr (fun k => k = BM ∨ k = BK) w w' := by
  by_cases h : i + 4 ≤ n
  · exact know_in g A c b n BM BK i w hf hb hl hc h
  · exact know_out g A c b n BM BK i w hf hl hi (by omega)
theorem best_any (g : Nat) (A : Option Addr) (c : Nat) (b : List Int) (n BM BK i : Nat) (w : World) (hf : Fin w g A c b n BM BK i) (hb : ∀ x ∈ b, (Lit.int .u8 x).wf = true) (hl : n ≤ 2000) (hc : n ≤ c) (hi : i < n) :
    Calls Try.prog 18 #[.pointer (some ⟨g, 0, none⟩), .int .i64 i] w fun e w' => e = .returned (.complex .f64 (floatOfInt .f64 ((best b i).1 : Int)) (floatOfInt .f64 ((best b i).2 : Int))) ∧ Below w.heap.size w w' := by
  by_cases h : i + 4 ≤ n
  · exact best_in g A c b n BM BK i w hf hb hl hc h
  · refine (best_out g A c b n BM BK i w hf hl (by omega) (by omega)).mono ?_
    rintro e w' ⟨rfl, h'⟩
    refine ⟨?_, h'⟩
    rw [best_short b i (by rw [hf.len]; omega) (by rw [hf.len]; omega)]
    exact ret_c float0 float0
theorem conv_any (n : Nat) (h : n < 2048) (w : World) : (convert 46 3 (.float .f64 (floatOfInt .f64 (n : Int)))).run Try.prog w = .ok (.int .i64 n) w :=
  run_convert_float_int w 46 3 .f64 .i64 _ _ (by rw [Try.underlying46]; rfl) Try.underlying3 (toInt_small n h)
theorem Fin.fr {w w' : World} {g : Nat} {A : Option Addr} {c : Nat} {b : List Int} {n BM BK i : Nat} {S : Nat → Prop} (h : Fin w g A c b n BM BK i) (f : Fr S w w') (hg : ¬ S g) (hm : ¬ S BM) (hk : ¬ S BK) (ha : 0 < n → ∀ k, A.map (·.block) = some k → ¬ S k) : Fin w' g A c b n BM BK i := by
  obtain ⟨cs, h1, h2, h3⟩ := h.back
  obtain ⟨D, k, h4, ⟨es, cl, h5, h6⟩, h7⟩ := h.map
  exact ⟨f.blk h.blk hg, h.len, h.reads.fr f ha, ⟨D, k, h4, ⟨es, cl, f.blk h5 hm, h6⟩, h7⟩, ⟨cs, f.blk h1 hk, h2, h3⟩, h.apart⟩
/-- at the start nothing is known -/
theorem fin_start {w : World} {A : Option Addr} {c : Nat} {b : List Int} {n : Nat} (hn : b.length = n) (hr : Reads w .u8 A n b) :
    Fin (((w.alloc (.map #[] 0)).alloc (.cells (madeCells #[.int .i64 0] n) 3)).alloc (.cells #[.slice A n c, .map (some w.heap.size), .slice (some ⟨w.heap.size + 1, 0, none⟩) n n] 43)) (w.heap.size + 1 + 1) A c b n w.heap.size (w.heap.size + 1) 0 := by
  have f1 : Same w (w.alloc (.map #[] 0)) := (Fr.refl _ w).alloc _
  have f2 := f1.alloc (.cells (madeCells #[.int .i64 0] n) 3)
  have f3 := f2.alloc (.cells #[.slice A n c, .map (some w.heap.size), .slice (some ⟨w.heap.size + 1, 0, none⟩) n n] 43)
  have s1 : (w.alloc (.map #[] 0)).heap.size = w.heap.size + 1 := World.size_alloc _ _
  have s2 : ((w.alloc (.map #[] 0)).alloc (.cells (madeCells #[.int .i64 0] n) 3)).heap.size = w.heap.size + 1 + 1 := by rw [World.size_alloc, s1]
  refine ⟨?_, hn, hr.fr f3 (fun _ _ _ h => h), ⟨.map [], 0, Nat.le_refl _, ?_, mapOk_start b⟩, ⟨madeCells #[.int .i64 0] n, ?_, ?_, fun j hj => absurd hj (Nat.not_lt_zero _)⟩, fun hp k hk => ?_⟩
  · have := blk_new ((w.alloc (.map #[] 0)).alloc (.cells (madeCells #[.int .i64 0] n) 3)) (.cells #[.slice A n c, .map (some w.heap.size), .slice (some ⟨w.heap.size + 1, 0, none⟩) n n] 43)
    rw [s2] at this
    exact this
  · exact ((World.ownsMap_made w Try.prog 50 (plainElem Try.prog 3)).alloc _).alloc _
  · have := blk_new (w.alloc (.map #[] 0)) (.cells (madeCells #[.int .i64 0] n) 3)
    rw [s1] at this
    exact blk_alloc this _
  · simp [madeCells]
  · have := hr.lt hp hk
    omega

theorem fin_append {wr w2 w3 : World} {g : Nat} {A : Option Addr} {c : Nat} {b : List Int} {n BM BK i B m : Nat} {v : Value} {xs : List Value} {tok : Obj} (hF : Fin wr g A c b n BM BK i) (h2 : Below wr.heap.size wr w2) (ho : wr.ownsRow 0 33 3 v m xs)
    (hfr : Fr (fun k => some k = v.ownBlock) (w2.alloc tok) w3) (hA : 0 < n → ∀ k, A.map (·.block) = some k → k < B) (hv : From B v) : Fin w3 g A c b n BM BK i := by
  have fA : Fr (fun k => some k = v.ownBlock) wr w3 := (((Fr.of_below h2).mono (fun _ _ h => h.elim)).alloc tok).trans' hfr
  obtain ⟨es, cl, hm⟩ := hF.map_blk
  obtain ⟨cs, hk, _⟩ := hF.back
  exact hF.fr fA (fun e => own_ne ho hF.blk (by decide) e.symm) (fun e => own_ne_map ho hm e.symm) (fun e => own_ne ho hk (by decide) e.symm) (fun hn k hk e => by have := hA hn k hk; have := hv k e.symm; omega)
theorem tok_cell {w2 w3 : World} {v : Value} {m i : Nat} {xs : List Value} {cs : Array Value} {e : TypeId} (ho : w2.ownsRow 0 33 3 v m xs) (hfr : Fr (fun k => some k = v.ownBlock) (w2.alloc (.cells cs e)) w3) : w3.cell? ⟨w2.heap.size, i, none⟩ = cs[i]? :=
  blk_cell (hfr.blk (blk_new w2 (.cells cs e)) (fun h => by have := own_lt ho h.symm; omega)) i
theorem know_own {w1 w2 : World} {g : Nat} {A : Option Addr} {c : Nat} {b : List Int} {n BM BK i m : Nat} {v : Value} {xs : List Value} (hF : Fin w1 g A c b n BM BK i) (ho : w1.ownsRow 0 33 3 v m xs) (hfr : Fr (fun k => k = BM ∨ k = BK) w1 w2) : w2.ownsRow 0 33 3 v m xs := by
  obtain ⟨es, cl, hm⟩ := hF.map_blk
  obtain ⟨cs, hk, _⟩ := hF.back
  exact hfr.own ho (fun k he h => h.elim (fun e => own_ne_map ho hm (by rw [he, e])) (fun e => own_ne ho hk (by decide) (by rw [he, e])))
theorem append_below {wr w2 w3 : World} {B : Nat} {v : Value} {tok : Obj} (hB : B ≤ wr.heap.size) (h2 : Below wr.heap.size wr w2) (hfr : Fr (fun k => some k = v.ownBlock) (w2.alloc tok) w3) (hv : From B v) : Below B wr w3 :=
  ((h2.mono hB).alloc (Nat.le_trans hB h2.size) tok).trans (grown_from hfr (by have := h2.size; rw [World.size_alloc]; omega) hv)

set_option maxRecDepth 20000 in
set_option maxHeartbeats 4000000 in
theorem find_any (A : Option Addr) (c : Nat) (b : List Int) (n : Nat) (w : World) (hn : b.length = n) (hr : Reads w .u8 A n b) (hb : ∀ x ∈ b, (Lit.int .u8 x).wf = true) (hl : n ≤ 2000) (hc : n ≤ c) :
    Calls Try.prog 12 #[.slice A n c] w fun e w' => ∃ v, e = .returned v ∧ w'.ownsRow 0 33 3 v (find b).length (flat (find b)) ∧ Below w.heap.size w w' := by
  have HR := Lib.hid hr; clear hr
  have HN := Lib.hid hn; clear hn
  have HB := Lib.hid hb; clear hb
  have hmm := @run_makeMap Try.prog
  have hmk := fun w => run_make_row' (P := Try.prog) 41 3 (.int .i64 0) 8 Try.underlying41 info3 rfl .i64 .i64 n (by omega) (by omega) w
  have hnI : (n : Int) ≤ 2000 := by omega
  have HL := Lib.hid hl; have HC := Lib.hid hc; clear hl hc
  obtain ⟨i0, hi, hz0, hz1, hz2⟩ := info_parts info33
  have HI := Lib.hid (And.intro hi (And.intro hz0 (And.intro hz1 hz2)))
  clear hi hz0 hz1 hz2
  go_enter Try.func12, Try.ntmps12
  go_wp2
  have b3 : Below w.heap.size w (((w.alloc (.map #[] 0)).alloc (.cells (madeCells #[.int .i64 0] n) 3)).alloc (.cells #[.slice A n c, .map (some w.heap.size), .slice (some ⟨w.heap.size + 1, 0, none⟩) n n] 43)) :=
    (((Below.refl _ w).alloc (Nat.le_refl _) _).alloc (by simp) _).alloc (by simp; omega) _
  have B3 := Lib.hid b3; clear b3
  have F3 := Lib.hid (fin_start (c := c) HN.out HR.out)
  clear hmm hmk
  go_loopw [2, 4] (fun v2 v4 wr => ∃ (i f : Nat) (ts : List Tok), v4 = .int .i64 i ∧ Hid (find b = ts ++ toks b f i) ∧ Hid (n ≤ i + f) ∧ Hid (ts.length ≤ i) ∧ Hid (wr.ownsRow 0 33 3 v2 ts.length (flat ts)) ∧ Hid (From w.heap.size v2) ∧ Hid (Below w.heap.size w wr) ∧ Hid (Fin wr (w.heap.size + 1 + 1) A c b n w.heap.size (w.heap.size + 1) i) ∧ Hid (i ≤ n)) (fun _ v4 _ => n - (intOf v4).toNat)
  case atStart => exact ⟨0, n, [], rfl, (by show find b = [] ++ toks b n 0; rw [List.nil_append, ← HN.out]; rfl : find b = [] ++ toks b n 0), (by omega : n ≤ 0 + n), (Nat.zero_le _ : ([] : List Tok).length ≤ 0), World.ownsRow_nil _ _ _ _, From.none _ _ _, B3.out, F3.out, Nat.zero_le _⟩
  case round =>
    obtain ⟨i, f, ts, rfl, HF, HE, HT, HO, HV, HBW, HFin, HIN⟩ := hrel
    obtain ⟨wo, rfl⟩ : ∃ wo : World, wo = wr := ⟨_, rfl⟩
    clear F3 B3
    by_cases hin : (i : Int) < n
    · have HBC := Lib.hid (best_any (w.heap.size + 1 + 1) A c b n w.heap.size (w.heap.size + 1) i wo HFin.out HB.out HL.out HC.out (by omega))
      have HKN := Lib.hid (fun j w' (h : Fin w' (w.heap.size + 1 + 1) A c b n w.heap.size (w.heap.size + 1) (i + j)) hj => know_any (w.heap.size + 1 + 1) A c b n w.heap.size (w.heap.size + 1) (i + j) w' h HB.out HL.out HC.out hj)
      obtain ⟨f', hf1, hf2⟩ := toks_more b f i (by rw [HN.out]; omega) (by rw [HN.out]; exact HE.out)
      rw [HN.out] at hf2
      have h4 := best4_spec b i i
      rw [← best_is] at h4
      have hst : i + Mx.step b i ≤ n := by
        unfold Mx.step
        rcases h4 with h4 | ⟨_, _, _, h4⟩
        · rw [h4]; simp; omega
        · have := lng_len b i (i - (best b i).2) (by rw [HN.out]; omega)
          rw [HN.out] at this
          omega
      have h258 : (best b i).1 ≤ 258 := by rw [best_is]; exact (best4_le b i i).1
      have h2000 : (best b i).2 ≤ i := by rw [best_is]; exact (best4_le b i i).2
      have h00 : (best b i).1 = 0 → (best b i).2 = 0 := fun h0 => by
        rcases h4 with h4 | ⟨h4, _⟩
        · rw [h4]
        · omega
      have htk : tokAt b i = if (best b i).1 = 0 then (b.getD i 0, 0, 0) else (0, ((best b i).1 : Int), ((best b i).2 : Int)) := rfl
      have hse : Mx.step b i = max (best b i).1 1 := rfl
      obtain ⟨A3, k3, rfl⟩ := own_shape HO.out
      clear h4
      generalize best b i = r at *
      have hbt : (ts.length + 1) * 24 ≤ 140737488355328 := by have := HT.out; have := HL.out; omega
      have HBT := Lib.hid hbt; clear hbt
      have HF1 := Lib.hid hf1; have HF2 := Lib.hid hf2; have HST := Lib.hid hst
      clear hf1 hf2 hst
      have hiI : (i : Int) ≤ 2000 := by have := HL.out; omega
      obtain ⟨p, o, rfl, hc⟩ := HR.out.2.2 (by omega)
      have ci := (HBW.out.cell (p := ⟨p, o + i, none⟩) (World.block_lt_of_cell? w _ (hc i (by omega)))).trans (hc i (by omega))
      clear hc
      generalize b.getD i 0 = y at *
      have hcv1 := conv_any r.1 (by omega)
      have hcv2 := conv_any r.2 (by omega)
      by_cases h0 : r.1 = 0
      · have h1 := h00 h0
        rw [if_pos h0] at htk
        have hs1 : Mx.step b i = 1 := by rw [hse, h0]; rfl
        have HTK := Lib.hid htk; have HS1 := Lib.hid hs1
        rw [h0] at hcv1
        rw [h1] at hcv2
        rw [h0, h1] at HBC
        clear htk hs1 hse h258 h2000 h00 h0 h1
        rw [float0] at HBC hcv1 hcv2
        go_wp2_with (first
          | (go_at_call 18; refine HBC.out.mono ?_; rintro e w2 ⟨rfl, h2⟩; have H2 := Lib.hid h2; have ci2 := (h2.cell (World.block_lt_of_cell? wo _ ci)).trans ci; have hp2 := World.block_lt_of_cell? w2 _ ci2; have O2 := Lib.hid ((Fr.of_below h2).own HO.out (fun _ _ h => h)); clear h2)
          | (at_builtin; refine wpList_append_cellsH (w2.heap.size + 1) (World.size_alloc _ _) rfl (.tmp 36) (.tmp 38) 25 rfl i0 (.agg #[.int .u8 0, .int .i64 0, .int .i64 0]) 3 24 Try.underlying25 HI.out.1 HI.out.2.1 HI.out.2.2.1 HI.out.2.2.2 rfl (by decide) (.slice A3 ts.length k3) ts.length (flat ts) rfl rfl (O2.out.alloc _) rfl (one3 _ _ _) (by decide) HBT.out ?_; intro v3 w3 hown hfr hloc; obtain ⟨A4, k4, rfl⟩ := own_shape hown; have t1 := tok_cell (i := 1) O2.out hfr; have HO3 := Lib.hid hown; have HFr3 := Lib.hid hfr; have HL3 := Lib.hid hloc; clear hown hfr hloc))
        have FA := Lib.hid (fin_append HFin.out H2.out HO.out HFr3.out (fun hn k hk => HR.out.lt hn hk) HV.out)
        have BA := Lib.hid (HBW.out.trans (append_below HBW.out.size H2.out HFr3.out HV.out))
        have VA : Hid (From w.heap.size (.slice A4 (ts.length + 1) k4)) := (from_one HL3.out (by have := H2.out.size; have := HBW.out.size; rw [World.size_alloc]; omega) HV.out : From w.heap.size (.slice A4 (ts.length + 1) k4))
        go_loopw [4, 43] (fun v4 v43 wi => ∃ j : Nat, v43 = .int .i64 j ∧ v4 = .int .i64 ((i : Int) + j) ∧ Hid (j ≤ 1) ∧ Hid (Fin wi (w.heap.size + 1 + 1) (some ⟨p, o, none⟩) c b n w.heap.size (w.heap.size + 1) (i + j)) ∧ Hid (wi.ownsRow 0 33 3 (.slice A4 (ts.length + 1) k4) (ts.length + 1) (flat (ts ++ [tokAt b i]))) ∧ Hid (Below w.heap.size w wi)) (fun _ v43 _ => 1 - (intOf v43).toNat)
        case atStart =>
          refine ⟨0, rfl, by simp, Nat.zero_le _, FA.out, ?_, BA.out⟩
          show World.ownsRow _ _ _ _ _ _ _
          rw [HTK.out, flat_snoc]
          exact HO3.out
        case round =>
          obtain ⟨j, rfl, rfl, HJ, HF5, HO5, HB5⟩ := hrel
          have hijI : (i : Int) + (j : Int) ≤ 10000 := by have := HJ.out; have := HST.out; have := HS1.out; have := HL.out; omega
          by_cases hj : (j : Int) < 1
          · have HK5 := HKN.out j _ HF5.out (by have := HST.out; have := HS1.out; omega)
            rw [Int.natCast_add] at HK5
            have HK5 := Lib.hid HK5
            go_wp2_with (go_at_call 19; refine HK5.out.mono ?_; rintro e w6 ⟨rfl, hF6, hf6⟩; have HF6 := Lib.hid hF6; have HFR6 := Lib.hid hf6; clear hF6 hf6)
            go_roundw
            case rel => exact ⟨j + 1, by go_num, by go_num, (by omega : j + 1 ≤ 1), HF6.out, know_own HF5.out HO5.out HFR6.out, HB5.out.trans (HFR6.out.below _ HB5.out.size (fun k hk e => by omega))⟩
            case measure => simp [intOf]; omega
          · have hjs : j = 1 := by have := HJ.out; omega
            have HJS := Lib.hid hjs; clear hjs
            go_wp2
            go_roundw
            case rel =>
              refine ⟨i + Mx.step b i, f', ts ++ [tokAt b i], by rw [HS1.out, HJS.out]; go_num, ?_, HF2.out, ?_, ?_, VA.out, HB5.out, ?_, HST.out⟩
              · show find b = _
                rw [HF.out, HF1.out]; simp
              · show (ts ++ [tokAt b i]).length ≤ _
                have := HT.out
                rw [List.length_append]; simp; rw [HS1.out]; omega
              · show World.ownsRow _ _ _ _ _ _ _
                rw [List.length_append]
                exact HO5.out
              · show Fin _ _ _ _ _ _ _ _ _
                rw [show i + Mx.step b i = i + j by rw [HS1.out, HJS.out]]
                exact HF5.out
            case measure => have := HJS.out; simp [intOf]; omega
      · rw [if_neg h0] at htk
        have hs1 : Mx.step b i = r.1 := by rw [hse]; omega
        have HTK := Lib.hid htk; have HS1 := Lib.hid hs1
        have hne : (((r.1 : Nat) : Int) == 0) = false := by rw [beq_eq_false_iff_ne]; omega
        have hmx : (1 : Int) ≤ ((r.1 : Nat) : Int) := by omega
        have hrI : ((r.1 : Nat) : Int) ≤ 258 := by omega
        have HR0 := Lib.hid (show 1 ≤ r.1 by omega)
        clear htk hs1 hse h258 h2000 h00 h0
        generalize floatOfInt .f64 (r.1 : Int) = X1 at *
        generalize floatOfInt .f64 (r.2 : Int) = X2 at *
        go_wp2_with (first
          | (go_at_call 18; refine HBC.out.mono ?_; rintro e w2 ⟨rfl, h2⟩; have H2 := Lib.hid h2; have O2 := Lib.hid ((Fr.of_below h2).own HO.out (fun _ _ h => h)); clear h2)
          | (at_builtin; refine wpList_append_cellsH (w2.heap.size + 1) (World.size_alloc _ _) rfl (.tmp 36) (.tmp 38) 25 rfl i0 (.agg #[.int .u8 0, .int .i64 0, .int .i64 0]) 3 24 Try.underlying25 HI.out.1 HI.out.2.1 HI.out.2.2.1 HI.out.2.2.2 rfl (by decide) (.slice A3 ts.length k3) ts.length (flat ts) rfl rfl (O2.out.alloc _) rfl (one3 _ _ _) (by decide) HBT.out ?_; intro v3 w3 hown hfr hloc; obtain ⟨A4, k4, rfl⟩ := own_shape hown; have t1 := tok_cell (i := 1) O2.out hfr; have HO3 := Lib.hid hown; have HFr3 := Lib.hid hfr; have HL3 := Lib.hid hloc; clear hown hfr hloc))
        have FA := Lib.hid (fin_append HFin.out H2.out HO.out HFr3.out (fun hn k hk => HR.out.lt hn hk) HV.out)
        have BA := Lib.hid (HBW.out.trans (append_below HBW.out.size H2.out HFr3.out HV.out))
        have VA : Hid (From w.heap.size (.slice A4 (ts.length + 1) k4)) := (from_one HL3.out (by have := H2.out.size; have := HBW.out.size; rw [World.size_alloc]; omega) HV.out : From w.heap.size (.slice A4 (ts.length + 1) k4))
        go_loopw [4, 43] (fun v4 v43 wi => ∃ j : Nat, v43 = .int .i64 j ∧ v4 = .int .i64 ((i : Int) + j) ∧ Hid (j ≤ r.1) ∧ Hid (Fin wi (w.heap.size + 1 + 1) (some ⟨p, o, none⟩) c b n w.heap.size (w.heap.size + 1) (i + j)) ∧ Hid (wi.ownsRow 0 33 3 (.slice A4 (ts.length + 1) k4) (ts.length + 1) (flat (ts ++ [tokAt b i]))) ∧ Hid (Below w.heap.size w wi)) (fun _ v43 _ => r.1 - (intOf v43).toNat)
        case atStart =>
          refine ⟨0, rfl, by simp, Nat.zero_le _, FA.out, ?_, BA.out⟩
          show World.ownsRow _ _ _ _ _ _ _
          rw [HTK.out, flat_snoc]
          exact HO3.out
        case round =>
          obtain ⟨j, rfl, rfl, HJ, HF5, HO5, HB5⟩ := hrel
          have hijI : (i : Int) + (j : Int) ≤ 10000 := by have := HJ.out; have := HST.out; have := HS1.out; have := HL.out; omega
          by_cases hj : (j : Int) < (r.1 : Nat)
          · have HK5 := HKN.out j _ HF5.out (by have := HST.out; have := HS1.out; omega)
            rw [Int.natCast_add] at HK5
            have HK5 := Lib.hid HK5
            go_wp2_with (go_at_call 19; refine HK5.out.mono ?_; rintro e w6 ⟨rfl, hF6, hf6⟩; have HF6 := Lib.hid hF6; have HFR6 := Lib.hid hf6; clear hF6 hf6)
            go_roundw
            case rel => exact ⟨j + 1, by go_num, by go_num, (by omega : j + 1 ≤ r.1), HF6.out, know_own HF5.out HO5.out HFR6.out, HB5.out.trans (HFR6.out.below _ HB5.out.size (fun k hk e => by omega))⟩
            case measure => simp [intOf]; omega
          · have hjs : j = r.1 := by have := HJ.out; omega
            have HJS := Lib.hid hjs; clear hjs
            go_wp2
            go_roundw
            case rel =>
              refine ⟨i + Mx.step b i, f', ts ++ [tokAt b i], by rw [HS1.out, HJS.out]; go_num, ?_, HF2.out, ?_, ?_, VA.out, HB5.out, ?_, HST.out⟩
              · show find b = _
                rw [HF.out, HF1.out]; simp
              · show (ts ++ [tokAt b i]).length ≤ _
                have := HT.out
                rw [List.length_append]; simp; rw [HS1.out]; omega
              · show World.ownsRow _ _ _ _ _ _ _
                rw [List.length_append]
                exact HO5.out
              · show Fin _ _ _ _ _ _ _ _ _
                rw [show i + Mx.step b i = i + j by rw [HS1.out, HJS.out]]
                exact HF5.out
            case measure => have := HR0.out; have := HJS.out; simp [intOf]; omega
    · have hni : n ≤ i := by omega
      have HNI := Lib.hid hni; clear hni
      go_wp2
      go_ret
      have e : find b = ts := by rw [HF.out, toks_end b f i (by rw [HN.out]; exact HNI.out), List.append_nil]
      exact ⟨_, rfl, by rw [e]; exact HO.out, HBW.out⟩
end Go.Proofs.Ytclamfdmgflofaa
