/- The walk of the reference's Find. -/
import Derived.Test.YtclamfdmgflofaaMxRef
namespace Go.Proofs.Ytclamfdmgflofaa
open Go.RowKit
open Mx

theorem info33 : (Try.prog.info? 33).map (fun i => (i.zero, i.size, i.bytes)) = some (some (.agg #[.int .u8 0, .int .i64 0, .int .i64 0]), 3, 24) := by kernel_rfl

theorem news_cells (w : World) (ys : List Value) (e : TypeId) : ∀ j u, ys[j]? = some u → (w.alloc (.cells ys.toArray e)).cell? ((⟨w.heap.size, 0, none⟩ : Addr).add j) = some u := by
  intro j u hj
  have e1 : (⟨w.heap.size, 0, none⟩ : Addr).add j = ⟨w.heap.size, j, none⟩ := by unfold Addr.add; split <;> simp_all
  rw [e1, blk_cell (blk_new w _)]
  simpa using hj

/-- append of one element of several cells onto a row of the call's own, in a walk -/
theorem wpList_append_cells {P : Program} {ops : Array Oper} {rest : List Oper} {o : Oper} {a : Act} {w0 : World} {Q : Exit → Act → World → Prop} {ys : List Value} {e : TypeId}
    (hg : o.guard = none) (s y : Operand) (t : TypeId) (ho : o.op = Op.call { callee := Callee.builtin Builtin.append, args := #[s, y], argTypes := #[t, t] })
    (i : TypeInfo) (z : Value) (size bytes : Nat) (ht : P.underlying t = some (.slice e)) (hi : P.info? e = some i) (hz : i.zero = some z) (hsize : i.size = size) (hby : i.bytes = bytes) (hzs : z.cells.size = size) (hsz : 0 < size)
    (v : Value) (n : Nat) (xs : List Value) (hs : a.eval s = v) (hy : a.eval y = .slice (some ⟨w0.heap.size, 0, none⟩) 1 1) (hown : w0.ownsRow 0 e size v n xs) (hl : ys.length = size) (hx1 : ∀ u ∈ ys, u.oneCell' = true) (hb0 : 0 < bytes) (hbytes : (n + 1) * bytes ≤ 140737488355328)
    (h : ∀ v' w', w'.ownsRow 0 e size v' (n + 1) (xs ++ ys) → Fr (fun k => some k = v.ownBlock) w0 w' → (v'.ownBlock = v.ownBlock ∨ ∃ j, v'.ownBlock = some j ∧ w0.heap.size ≤ j) → wpList P ops Q rest (a.put o.dst v') w') :
    wpList P ops Q (o :: rest) a (w0.alloc (.cells ys.toArray e)) := by
  have hlen : n + 1 ≤ 140737488355328 := Nat.le_trans (Nat.le_mul_of_pos_right _ hb0) hbytes
  refine wpList_append_own_at _ hg s y t ho 0 e i z size bytes ht hi hz hsize hby hzs hsz v n xs hs (hown.alloc _) ⟨w0.heap.size, 0, none⟩ 1 1 ys hy (by rw [hl]; simp) (news_cells w0 ys e) hx1 (by simp only [maxLen]; omega) hbytes (Nat.zero_le _) ?_
  intro v' w' h1 h2 _ h4
  refine h v' w' h1 (((Fr.refl (fun _ => False) w0).alloc _).trans (Fr.of_grown h2) (fun _ _ h => h.elim) (fun _ _ h => h)) ?_
  rcases h4 with h4 | h4
  · exact .inl h4
  · exact .inr ⟨_, h4, by simp⟩

theorem own_cellsN {w : World} {base n sz : Nat} {e : TypeId} {v : Value} {xs : List Value} (h : w.ownsRow base e sz v n xs) (hn : 0 < n) : ∃ b c, v = .slice (some ⟨b, 0, none⟩) n c ∧ ∀ j u, xs[j]? = some u → w.cell? ⟨b, j, none⟩ = some u := by
  rcases h.2 with ⟨rfl, rfl⟩ | ⟨g, cap, cur, rfl, _⟩
  · omega
  · refine ⟨g, cap, rfl, fun j u hj => ?_⟩
    have := h.cells (g := g) (by simp [Value.ownBlock]) j u hj
    rw [← this]
    congr 1
    unfold Addr.add
    split <;> simp_all

/-- the cells of a list of tokens -/
def flat (ts : List Tok) : List Value := ts.flatMap (fun t => [.int .u8 t.1, .int .i64 t.2.1, .int .i64 t.2.2])
theorem flat_snoc (ts : List Tok) (x y z : Int) : flat (ts ++ [(x, y, z)]) = flat ts ++ [.int .u8 x, .int .i64 y, .int .i64 z] := by simp [flat]
theorem one3 (a b c : Int) : ∀ u ∈ [Value.int .u8 a, Value.int .i64 b, Value.int .i64 c], u.oneCell' = true := by
  intro u hu
  simp at hu
  rcases hu with rfl | rfl | rfl <;> rfl
theorem grown_from {w w' : World} {v : Value} {B : Nat} (h : Fr (fun k => some k = v.ownBlock) w w') (hB : B ≤ w.heap.size) (hv : From B v) : Below B w w' :=
  h.below B hB (fun k hk e => by have := hv k e.symm; omega)
theorem from_one {w0 : World} {v v' : Value} {B : Nat} (h : v'.ownBlock = v.ownBlock ∨ ∃ j, v'.ownBlock = some j ∧ w0.heap.size ≤ j) (hB : B ≤ w0.heap.size) (hv : From B v) : From B v' := fun j hj => by
  rcases h with h | ⟨i, h, hi⟩
  · exact hv j (by rw [← h]; exact hj)
  · rw [h] at hj; simp at hj; omega

theorem toks_end (b : List Int) (f i : Nat) (h : b.length ≤ i) : toks b f i = [] := by
  cases f with
  | zero => rfl
  | succ f => rw [toks, if_neg (by omega)]
theorem toks_more (b : List Int) (f i : Nat) (h : i < b.length) (hf : b.length ≤ i + f) : ∃ f', toks b f i = tokAt b i :: toks b f' (i + Mx.step b i) ∧ b.length ≤ i + Mx.step b i + f' := by
  cases f with
  | zero => omega
  | succ f =>
    refine ⟨f, by rw [toks, if_pos h], ?_⟩
    unfold Mx.step
    omega

set_option maxRecDepth 20000 in
set_option maxHeartbeats 4000000 in
theorem rfind_any (A : Option Addr) (c : Nat) (b : List Int) (n : Nat) (w : World) (hn : b.length = n) (hr : Reads w .u8 A n b) (hl : n ≤ 10000) :
    Calls Try.prog 13 #[.slice A n c] w fun e w' => ∃ v, e = .returned v ∧ w'.ownsRow 0 33 3 v (find b).length (flat (find b)) ∧ Below w.heap.size w w' := by
  have HR := Lib.hid hr; clear hr
  have HN := Lib.hid hn; clear hn
  have HL := Lib.hid hl; clear hl
  obtain ⟨i0, hi, hz0, hz1, hz2⟩ := info_parts info33
  have HI := Lib.hid (And.intro hi (And.intro hz0 (And.intro hz1 hz2)))
  clear hi hz0 hz1 hz2
  go_enter Try.func13, Try.ntmps13
  go_wp2
  go_loopw [3, 4] (fun v3 v4 wr => ∃ (i f : Nat) (ts : List Tok), v4 = .int .i64 i ∧ Hid (find b = ts ++ toks b f i) ∧ Hid (n ≤ i + f) ∧ Hid (ts.length ≤ i) ∧ Hid (wr.ownsRow 0 33 3 v3 ts.length (flat ts)) ∧ Hid (From w.heap.size v3) ∧ Hid (Below w.heap.size w wr) ∧ Hid (i ≤ n)) (fun _ v4 _ => n - (intOf v4).toNat)
  case atStart => exact ⟨0, n, [], rfl, (by show find b = [] ++ toks b n 0; rw [List.nil_append, ← HN.out]; rfl : find b = [] ++ toks b n 0), (by omega : n ≤ 0 + n), (Nat.zero_le _ : ([] : List Tok).length ≤ 0), World.ownsRow_nil _ _ _ _, From.none _ _ _, Below.refl _ _, Nat.zero_le _⟩
  case round =>
    obtain ⟨i, f, ts, rfl, HF, HE, HT, HO, HV, HB, HIN⟩ := hrel
    have R2 := Lib.hid (HR.out.below HB.out (fun hp g hg => HR.out.lt hp hg))
    by_cases hin : (i : Int) < n
    · have HC := Lib.hid (rbest_any A c b i n wr HN.out R2.out HL.out HIN.out)
      obtain ⟨f', hf1, hf2⟩ := toks_more b f i (by rw [HN.out]; omega) (by rw [HN.out]; exact HE.out)
      rw [HN.out] at hf2
      have hst : i + Mx.step b i ≤ n := by
        unfold Mx.step
        have h4 := best4_spec b i i
        rw [← best_is] at h4
        rcases h4 with h4 | ⟨_, _, _, h4⟩
        · rw [h4]; simp; omega
        · have := lng_len b i (i - (best b i).2) (by rw [HN.out]; omega)
          rw [HN.out] at this
          omega
      have htk : tokAt b i = if (best b i).1 = 0 then (b.getD i 0, 0, 0) else (0, ((best b i).1 : Int), ((best b i).2 : Int)) := rfl
      have hse : Mx.step b i = max (best b i).1 1 := rfl
      obtain ⟨A3, k3, rfl⟩ := own_shape HO.out
      generalize best b i = r at *
      have hbt : (ts.length + 1) * 24 ≤ 140737488355328 := by have := HT.out; have := HL.out; omega
      have HBT := Lib.hid hbt; clear hbt
      have HF1 := Lib.hid hf1; have HF2 := Lib.hid hf2; have HST := Lib.hid hst
      clear hf1 hf2 hst
      have hiI : (i : Int) ≤ 20000 := by have := HL.out; omega
      by_cases h0 : r.1 = 0
      · rw [if_pos h0] at htk
        have hs1 : Mx.step b i = 1 := by rw [hse, h0]; rfl
        have HTK := Lib.hid htk; have HS1 := Lib.hid hs1
        clear htk hs1 hse
        have h0' : ((r.1 : Nat) : Int) = 0 := by omega
        rw [h0'] at HC
        obtain ⟨p, o, rfl, hc⟩ := R2.out.2.2 (by omega)
        have ci := hc i (by omega)
        have hpw : p < w.heap.size := HR.out.lt (by omega) rfl
        clear hc
        go_wp2_with (first
          | (go_at_call 20; refine HC.out.mono ?_; rintro e w2 ⟨rfl, h2⟩; have H2 := Lib.hid h2; have ci2 := h2.cell ci (fun h => h); clear h2)
          | (at_builtin; refine wpList_append_cells rfl (.tmp 19) (.tmp 25) 25 rfl i0 (.agg #[.int .u8 0, .int .i64 0, .int .i64 0]) 3 24 Try.underlying25 HI.out.1 HI.out.2.1 HI.out.2.2.1 HI.out.2.2.2 rfl (by decide) (.slice A3 ts.length k3) ts.length (flat ts) rfl rfl (H2.out.own HO.out (fun _ _ h => h)) rfl (one3 _ _ _) (by decide) HBT.out ?_; intro v3 w3 hown hfr hloc; obtain ⟨A4, k4, rfl⟩ := own_shape hown; have HO3 := Lib.hid hown; have HFr3 := Lib.hid hfr; have HL3 := Lib.hid hloc; clear hown hfr hloc))
        have B2 := HB.out.trans ((below_fr H2.out).mono HB.out.size)
        have B3 := B2.trans (grown_from HFr3.out B2.size HV.out)
        have V3 : From w.heap.size _ := from_one HL3.out B2.size HV.out
        go_roundw
        case rel =>
          refine ⟨i + Mx.step b i, f', ts ++ [tokAt b i], by rw [HS1.out]; go_num, ?_, HF2.out, ?_, ?_, V3, B3, HST.out⟩
          · show find b = _
            rw [HF.out, HF1.out]; simp
          · show (ts ++ [tokAt b i]).length ≤ _
            have := HT.out
            rw [List.length_append]; simp; rw [HS1.out]; omega
          · show World.ownsRow _ _ _ _ _ _ _
            rw [HTK.out, flat_snoc, List.length_append]
            exact HO3.out
        case measure => simp [intOf]; omega
      · rw [if_neg h0] at htk
        have hs1 : Mx.step b i = r.1 := by rw [hse]; omega
        have HTK := Lib.hid htk; have HS1 := Lib.hid hs1
        clear htk hs1 hse
        have h0' : ¬ ((r.1 : Nat) : Int) = 0 := by omega
        have hr1 : ((r.1 : Nat) : Int) ≤ 20000 := by have := HST.out; have := HL.out; have := HS1.out; omega
        have HN0 := Lib.hid h0; clear h0
        go_wp2_with (first
          | (go_at_call 20; refine HC.out.mono ?_; rintro e w2 ⟨rfl, h2⟩; have H2 := Lib.hid h2; clear h2)
          | (at_builtin; refine wpList_append_cells rfl (.tmp 29) (.tmp 33) 25 rfl i0 (.agg #[.int .u8 0, .int .i64 0, .int .i64 0]) 3 24 Try.underlying25 HI.out.1 HI.out.2.1 HI.out.2.2.1 HI.out.2.2.2 rfl (by decide) (.slice A3 ts.length k3) ts.length (flat ts) rfl rfl (H2.out.own HO.out (fun _ _ h => h)) rfl (one3 _ _ _) (by decide) HBT.out ?_; intro v3 w3 hown hfr hloc; obtain ⟨A4, k4, rfl⟩ := own_shape hown; have HO3 := Lib.hid hown; have HFr3 := Lib.hid hfr; have HL3 := Lib.hid hloc; clear hown hfr hloc))
        have B2 := HB.out.trans ((below_fr H2.out).mono HB.out.size)
        have B3 := B2.trans (grown_from HFr3.out B2.size HV.out)
        have V3 : From w.heap.size _ := from_one HL3.out B2.size HV.out
        go_roundw
        case rel =>
          refine ⟨i + Mx.step b i, f', ts ++ [tokAt b i], by rw [HS1.out]; go_num, ?_, HF2.out, ?_, ?_, V3, B3, HST.out⟩
          · show find b = _
            rw [HF.out, HF1.out]; simp
          · show (ts ++ [tokAt b i]).length ≤ _
            have := HT.out
            rw [List.length_append]; simp; rw [HS1.out]; have := HN0.out; omega
          · show World.ownsRow _ _ _ _ _ _ _
            rw [HTK.out, flat_snoc, List.length_append]
            exact HO3.out
        case measure => simp [intOf]; omega
    · have hni : n ≤ i := by omega
      have HNI := Lib.hid hni; clear hni
      go_wp2
      go_ret
      have e : find b = ts := by rw [HF.out, toks_end b f i (by rw [HN.out]; exact HNI.out), List.append_nil]
      exact ⟨_, rfl, by rw [e]; exact HO.out, HB.out⟩
end Go.Proofs.Ytclamfdmgflofaa
