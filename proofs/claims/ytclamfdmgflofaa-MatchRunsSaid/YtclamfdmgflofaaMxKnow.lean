/- The walk of the finder's know. -/
import Derived.Test.YtclamfdmgflofaaMxBest
import Derived.StillTailTactics
namespace Go.Proofs.Ytclamfdmgflofaa
open Go.RowKit
open Mx

theorem Fin.cellBK {w : World} {g : Nat} {A : Option Addr} {c : Nat} {b : List Int} {n BM BK i : Nat} (h : Fin w g A c b n BM BK i) (hi : i < n) : ∃ v, w.cell? ⟨BK, i, none⟩ = some v := by
  obtain ⟨cs, h1, h2, _⟩ := h.back
  exact ⟨cs[i], by rw [blk_cell h1]; exact Array.getElem?_eq_getElem (by omega)⟩

theorem Fin.ne_gk {w : World} {g : Nat} {A : Option Addr} {c : Nat} {b : List Int} {n BM BK i : Nat} (h : Fin w g A c b n BM BK i) : g ≠ BK := fun e => by
  obtain ⟨cs, h1, _⟩ := h.back
  rw [← e, h.blk] at h1
  injection h1 with h1
  injection h1 with _ h2
  exact absurd h2 (by decide)
theorem Fin.map_blk {w : World} {g : Nat} {A : Option Addr} {c : Nat} {b : List Int} {n BM BK i : Nat} (h : Fin w g A c b n BM BK i) : ∃ es cl, w.heap[BM]? = some (.map es cl) := by
  obtain ⟨D, k, _, ⟨es, cl, hb, _⟩, _⟩ := h.map
  exact ⟨es, cl, hb⟩
theorem Fin.ne_gm {w : World} {g : Nat} {A : Option Addr} {c : Nat} {b : List Int} {n BM BK i : Nat} (h : Fin w g A c b n BM BK i) : g ≠ BM := fun e => by
  obtain ⟨es, cl, h1⟩ := h.map_blk
  rw [← e, h.blk] at h1
  injection h1 with h1
  cases h1
theorem Fin.ne_mk {w : World} {g : Nat} {A : Option Addr} {c : Nat} {b : List Int} {n BM BK i : Nat} (h : Fin w g A c b n BM BK i) : BM ≠ BK := fun e => by
  obtain ⟨es, cl, h1⟩ := h.map_blk
  obtain ⟨cs, h2, _⟩ := h.back
  rw [e, h2] at h1
  injection h1 with h1
  cases h1
/-- one more place is known -/
theorem Fin.next {w w' : World} {g : Nat} {A : Option Addr} {c : Nat} {b : List Int} {n BM BK i : Nat} (h : Fin w g A c b n BM BK i) (f : Fr (fun k => k = BM ∨ k = BK) w w')
    (hb : ∃ cs : Array Value, w'.heap[BK]? = some (.cells cs 3 (0, 0)) ∧ cs.size = n ∧ ∀ j, j < i + 1 → j + 4 ≤ n → cs[j]? = some (.int .i64 (prev b j j)))
    (hm : ∃ (D : DataW Unit) (k : Nat), k ≤ i + 1 ∧ w'.ownsMap Try.prog 50 (plainElem Try.prog 3) BM k D ∧ MapOk b (i + 1) D) : Fin w' g A c b n BM BK (i + 1) :=
  ⟨f.blk h.blk (fun e => e.elim (fun e => h.ne_gm e) (fun e => h.ne_gk e)), h.len, h.reads.fr f (fun hn k hk e => e.elim (fun e => (h.apart hn k hk).2 e) (fun e => (h.apart hn k hk).1 e)), hm, hb, h.apart⟩
theorem blk_below {w w' : World} {B k : Nat} {o : Obj} (h : Below B w w') (hk : k < B) (hb : w.heap[k]? = some o) : w'.heap[k]? = some o := (h.block k hk).trans hb
theorem back_set {cs : Array Value} {b : List Int} {n i : Nat} (h2 : cs.size = n) (h3 : ∀ j, j < i → j + 4 ≤ n → cs[j]? = some (.int .i64 (prev b j j))) (x : Int) (hx : i + 4 ≤ n → x = prev b i i) :
    ∀ j, j < i + 1 → j + 4 ≤ n → (cs.setIfInBounds i (.int .i64 x))[j]? = some (.int .i64 (prev b j j)) := fun j hj hn => by
  by_cases e : j = i
  · subst e
    rw [Array.getElem?_setIfInBounds_self_of_lt (by omega), hx hn]
  · rw [Array.getElem?_setIfInBounds_ne (Ne.symm e)]
    exact h3 j (by omega) hn

set_option maxRecDepth 20000 in
set_option maxHeartbeats 2000000 in
theorem know_out (g : Nat) (A : Option Addr) (c : Nat) (b : List Int) (n BM BK i : Nat) (w : World) (hf : Fin w g A c b n BM BK i) (hl : n ≤ 2000) (hi : i < n) (h : n < i + 4) :
    Calls Try.prog 19 #[.pointer (some ⟨g, 0, none⟩), .int .i64 i] w fun e w' => e = .returned (.tuple #[]) ∧ Fin w' g A c b n BM BK (i + 1) ∧ Fr (fun k => k = BM ∨ k = BK) w w' := by
  have d2 := blk_cell hf.blk 2
  have hg := blk_lt hf.blk
  obtain ⟨v, hv⟩ := hf.cellBK hi
  have fz : w.frozen? ⟨BK, i, none⟩ = false := by obtain ⟨cs, h1, _⟩ := hf.back; exact blk_frozen h1 i
  have hgk := hf.ne_gk
  have HC := Lib.hid (four_out g A c i n (w.setCell ⟨BK, i, none⟩ (.int .i64 (-1))) (by rw [blk_cell (blk_far hf.blk (p := ⟨BK, i, none⟩) hgk _)]; rfl) (by omega) (by omega) h)
  have hnI : (n : Int) ≤ 2000 := by omega
  have hiI : (i : Int) < n := by omega
  have HF := Lib.hid hf; clear hf
  have HGK := Lib.hid hgk; have HH := Lib.hid h; clear hgk h hl
  go_enter Try.func19, Try.ntmps19
  go_wp2_with (go_at_call 21; refine HC.out.mono ?_; rintro e w3 ⟨rfl, h3⟩; have H3 := Lib.hid h3; clear h3)
  refine bodyPost_ret (v := .tuple #[]) (results_none Try.results19 _ _ _) rfl ?_
  have fr0 : Fr (fun k => k = BM ∨ k = BK) w (w.setCell ⟨BK, i, none⟩ (.int .i64 (-1))) := (Fr.refl _ w).setCell _ _ (fun _ => .inr rfl)
  have b4 := H3.out.alloc H3.out.size (.cells #[.int .u8 0, .int .u8 0, .int .u8 0, .int .u8 0] 50)
  have fr := fr0.trans (Fr.of_below b4) (fun _ _ h => h) (fun _ _ h => h.elim)
  refine ⟨rfl, HF.out.next fr ?_ ?_, fr⟩
  · obtain ⟨cs, h1, h2, h3⟩ := HF.out.back
    exact ⟨cs.setIfInBounds i (.int .i64 (-1)), blk_below b4 (blk_lt (blk_set h1 i _)) (blk_set h1 i _), by rw [Array.size_setIfInBounds]; exact h2, back_set h2 h3 (-1) (fun e => by have := HH.out; omega)⟩
  · obtain ⟨D, k, h1, ⟨es, cl, h2, h3⟩, h4⟩ := HF.out.map
    have h5 := blk_far h2 (p := ⟨BK, i, none⟩) HF.out.ne_mk (.int .i64 (-1))
    exact ⟨D, k, by omega, ⟨es, cl, blk_below b4 (blk_lt h5) h5, h3⟩, mapOk_end h4 (by rw [HF.out.len]; exact HH.out)⟩

theorem Fin.map_fr {w W6 : World} {k BM BK : Nat} {D : DataW Unit} (hm : w.ownsMap Try.prog 50 (plainElem Try.prog 3) BM k D) (hne : BM ≠ BK) (f6 : Fr (fun k => k = BK) w W6) : W6.ownsMap Try.prog 50 (plainElem Try.prog 3) BM k D := by
  obtain ⟨es, cl, h2, h3⟩ := hm
  exact ⟨es, cl, f6.blk h2 hne, h3⟩
theorem know_end {w W6 w7 : World} {g : Nat} {A : Option Addr} {c : Nat} {b : List Int} {n BM BK i k : Nat} {D : DataW Unit} (h : Fin w g A c b n BM BK i) (hb : ∀ x ∈ b, (Lit.int .u8 x).wf = true) (hi : i + 4 ≤ n) (f6 : Fr (fun k => k = BK) w W6)
    (hback : ∃ cs : Array Value, W6.heap[BK]? = some (.cells cs 3 (0, 0)) ∧ cs.size = n ∧ ∀ j, j < i + 1 → j + 4 ≤ n → cs[j]? = some (.int .i64 (prev b j j)))
    (hm : w.ownsMap Try.prog 50 (plainElem Try.prog 3) BM k D) (hok : MapOk b i D) (hk : k ≤ i)
    (hown : w7.ownsMap Try.prog 50 (plainElem Try.prog 3) BM (k + 1) (D.put (kl b i) (.lit (.int .i64 i)))) (hgrow : W6.drew.grownBy w7 (some BM)) : Fin w7 g A c b n BM BK (i + 1) ∧ Fr (fun k => k = BM ∨ k = BK) w w7 := by
  have fr : Fr (fun k => k = BM ∨ k = BK) w w7 := f6.drew.trans (Fr.of_grown hgrow) (fun _ _ h => .inr h) (fun k _ h => .inl (by injection h))
  refine ⟨h.next fr ?_ ⟨_, k + 1, by omega, hown, mapOk_put hb hok hm.isMap (by rw [h.len]; exact hi)⟩, fr⟩
  obtain ⟨cs, h1, h2, h3⟩ := hback
  exact ⟨cs, (Fr.of_grown hgrow).blk (w := W6.drew) h1 (fun e => h.ne_mk (by injection e with e; exact e.symm)), h2, h3⟩

set_option maxRecDepth 20000 in
set_option maxHeartbeats 4000000 in
theorem know_in (g : Nat) (A : Option Addr) (c : Nat) (b : List Int) (n BM BK i : Nat) (w : World) (hf : Fin w g A c b n BM BK i) (hb : ∀ x ∈ b, (Lit.int .u8 x).wf = true) (hl : n ≤ 2000) (hc : n ≤ c) (h : i + 4 ≤ n) :
    Calls Try.prog 19 #[.pointer (some ⟨g, 0, none⟩), .int .i64 i] w fun e w' => e = .returned (.tuple #[]) ∧ Fin w' g A c b n BM BK (i + 1) ∧ Fr (fun k => k = BM ∨ k = BK) w w' := by
  have d2 := blk_cell hf.blk 2
  have hg := blk_lt hf.blk
  obtain ⟨v, hv⟩ := hf.cellBK (i := i) (by omega)
  have fz : w.frozen? ⟨BK, i, none⟩ = false := by obtain ⟨cs, h1, _⟩ := hf.back; exact blk_frozen h1 i
  have HGK := Lib.hid hf.ne_gk
  obtain ⟨W1, hW1⟩ : ∃ W1, w.setCell ⟨BK, i, none⟩ (.int .i64 (-1)) = W1 := ⟨_, rfl⟩
  have fr0 : Fr (fun k => k = BK) w W1 := by rw [← hW1]; exact (Fr.refl _ w).setCell _ _ (fun _ => rfl)
  have G1 := Lib.hid (fr0.blk hf.blk HGK.out)
  have HC := four_in g A c b i n W1 (by rw [blk_cell G1.out]; rfl) (hf.reads.fr fr0 (fun hn k hk => (hf.apart hn k hk).1)) (by omega) hc h
  rw [← hW1] at HC
  obtain ⟨x0, x1, x2, x3, hk4⟩ : ∃ x0 x1 x2 x3, k4 b i = .agg #[.int .u8 x0, .int .u8 x1, .int .u8 x2, .int .u8 x3] := ⟨_, _, _, _, rfl⟩
  rw [hk4] at HC
  have HC := Lib.hid HC
  have HK := Lib.hid hk4; clear hk4
  have HW1 := Lib.hid hW1; clear hW1
  have HF0 := Lib.hid fr0; clear fr0
  have hnI : (n : Int) ≤ 2000 := by omega
  have hiI : (i : Int) < n := by omega
  have HF := Lib.hid hf; clear hf
  have HH := Lib.hid h; clear h hl
  have HB := Lib.hid hb; clear hb
  have HCC := Lib.hid hc; clear hc
  have HLK : Hid (∀ w3 : World, Below W1.heap.size W1 w3 → ∀ o m, (Instr.lookup 40 (.map (some BM)) (.agg #[.int .u8 x0, .int .u8 x1, .int .u8 x2, .int .u8 x3]) true).run Try.prog ((w3.alloc o).drewN m) = .ok (.tuple #[.int .i64 (if 0 ≤ prev b i i then prev b i i else 0), .bool (decide (0 ≤ prev b i i))]) ((w3.alloc o).drewN m)) := (fun w3 h3 o m => by
    have := HF.out.lookupA HB.out i (HF0.out.trans (Fr.of_below h3) (fun _ _ h => h) (fun _ _ h => h.elim)) HF.out.ne_mk o m
    rw [HK.out] at this
    exact this : ∀ w3 : World, Below W1.heap.size W1 w3 → ∀ o m, (Instr.lookup 40 (.map (some BM)) (.agg #[.int .u8 x0, .int .u8 x1, .int .u8 x2, .int .u8 x3]) true).run Try.prog ((w3.alloc o).drewN m) = .ok (.tuple #[.int .i64 (if 0 ≤ prev b i i then prev b i i else 0), .bool (decide (0 ≤ prev b i i))]) ((w3.alloc o).drewN m))
  obtain ⟨q, hq⟩ : ∃ q, prev b i i = q := ⟨_, rfl⟩
  rw [hq] at HLK
  have HQ := Lib.hid hq; clear hq
  by_cases hp : 0 ≤ q
  · rw [if_pos hp, decide_eq_true hp] at HLK
    go_enter Try.func19, Try.ntmps19
    go_wp2_with (go_at_call 21; refine HC.out.mono ?_; rintro e w3 ⟨rfl, h3⟩; rw [HW1.out] at h3; have H3 := Lib.hid h3; have hlk := HLK.out w3 h3; have e1 := (h3.cell (p := ⟨g, 1, none⟩) (blk_lt G1.out)).trans (blk_cell G1.out 1); have e2 := (h3.cell (p := ⟨g, 2, none⟩) (blk_lt G1.out)).trans (blk_cell G1.out 2); have hg3 := Nat.lt_of_lt_of_le (blk_lt G1.out) h3.size; clear h3)
    go_quiet (fail)
    generalize hW6 : (w3.alloc (.cells #[.int .u8 x0, .int .u8 x1, .int .u8 x2, .int .u8 x3] 50)).drewN nq = W6
    have f6 : Same w3 W6 := by rw [← hW6]; exact ((Fr.refl _ w3).alloc _).drewN nq
    have z6 : W6.heap.size = w3.heap.size + 1 := by rw [← hW6]; exact World.size_alloc _ _
    have kb : W6.heap[w3.heap.size]? = some (.cells #[.int .u8 x0, .int .u8 x1, .int .u8 x2, .int .u8 x3] 50 (0, 0)) := by rw [← hW6]; exact blk_new w3 _
    have bk6 : ∃ cs : Array Value, W6.heap[BK]? = some (.cells cs 3 (0, 0)) ∧ cs.size = n ∧ ∀ j, j < i → j + 4 ≤ n → cs[j]? = some (.int .i64 (prev b j j)) := by
      obtain ⟨cs, h1, h2, h3⟩ := HF.out.back
      have h4 := HW1.out ▸ blk_set h1 i (.int .i64 (-1))
      exact ⟨_, f6.blk (blk_below H3.out (blk_lt h4) h4) (fun h => h), by rw [Array.size_setIfInBounds]; exact h2, fun j hj hn => by rw [Array.getElem?_setIfInBounds_ne (by omega)]; exact h3 j hj hn⟩
    obtain ⟨cs, h1, h2, h3⟩ := bk6
    have b6 : ∃ v, W6.cell? ⟨BK, i, none⟩ = some v := ⟨cs[i], by rw [blk_cell h1]; exact Array.getElem?_eq_getElem (by omega)⟩
    obtain ⟨v6, b6⟩ := b6
    have z6b := blk_frozen h1 i
    have g62 : W6.cell? ⟨g, 2, none⟩ = some (.slice (some ⟨BK, 0, none⟩) n n) := f6.cell e2 (fun h => h)
    have m6 : W6.cell? ⟨g, 1, none⟩ = some (.map (some BM)) := f6.cell e1 (fun h => h)
    have H1 := Lib.hid h1; have H2 := Lib.hid h2; have HCS := Lib.hid h3; have F6 := Lib.hid f6; have Z6 := Lib.hid z6; have KB := Lib.hid kb; have M6 := Lib.hid m6
    have HWW := Lib.hid hW6
    have hkb : w3.heap.size < W6.heap.size := by omega
    clear h1 h2 h3 f6 z6 kb m6 hW6
    go_wp2
    generalize hW8 : W6.setCell ⟨BK, i, none⟩ (.int .i64 q) = W8
    have f8 : Fr (fun k => k = BK) W6 W8 := by rw [← hW8]; exact (Fr.refl _ W6).setCell _ _ (fun _ => rfl)
    have h8 : W8.heap[BK]? = some (.cells (cs.setIfInBounds i (.int .i64 q)) 3 (0, 0)) := by rw [← hW8]; exact blk_set H1.out i _
    have m8 : W8.cell? ⟨g, 1, none⟩ = some (.map (some BM)) := f8.cell M6.out HGK.out
    have kb8 := f8.blk KB.out (fun e => by
      have e' : w3.heap.size = BK := e
      have := H1.out
      rw [← e', KB.out] at this
      injection this with this
      injection this with _ this
      exact absurd this (by decide))
    have k0 := blk_cell kb8 0
    have k1 := blk_cell kb8 1
    have k2 := blk_cell kb8 2
    have k3 := blk_cell kb8 3
    have F8 := Lib.hid f8; have H8 := Lib.hid h8
    have hk8 := blk_lt kb8
    clear hW8 kb8 f8 h8
    obtain ⟨D, k, hk, hm, hok⟩ := HF.out.map
    have fr6 : Fr (fun k => k = BK) w W8 := ((HF0.out.trans' ((Fr.of_below H3.out).mono (fun _ _ h => h.elim))).trans' (F6.out.mono (fun _ _ h => h.elim))).trans' F8.out
    have own6 := Fin.map_fr hm HF.out.ne_mk fr6
    have KEY : keyOf Try.prog 50 (.agg #[.int .u8 x0, .int .u8 x1, .int .u8 x2, .int .u8 x3]) = some (kl b i) := by rw [← HK.out]; exact key_is b i HB.out
    have OW := Lib.hid own6; have FR := Lib.hid fr6; have HM := Lib.hid hm; have HOK := Lib.hid hok; have HKK := Lib.hid hk; have KEY := Lib.hid KEY
    clear own6 fr6 hm hok hk
    go_still_tail 6, (by kernel_rfl)
    change wpList _ _ _ _ _ W8.drew
    go_wp2_with (at_mapUpdate; refine wpList_mapUpdate_own _ rfl _ _ _ 40 rfl 50 3 law50 Try.underlying40 _ BM k _ rfl OW.out.drew (by unfold maxLen; have := HKK.out; omega) _ _ _ rfl rfl KEY.out _ [] (plainElem_int Try.underlying3 (WalkArith.wf_i64 (by omega))) ?_; intro w7 hown7 hgrow7; have HO7 := Lib.hid hown7; have HG7 := Lib.hid hgrow7; clear hown7 hgrow7)
    go_end0
    refine ⟨rfl, know_end HF.out HB.out HH.out FR.out ⟨_, H8.out, by rw [Array.size_setIfInBounds]; exact H2.out, back_set H2.out HCS.out q (fun _ => HQ.out.symm)⟩ HM.out HOK.out HKK.out HO7.out HG7.out⟩
  · rw [if_neg hp, decide_eq_false hp] at HLK
    go_enter Try.func19, Try.ntmps19
    go_wp2_with (go_at_call 21; refine HC.out.mono ?_; rintro e w3 ⟨rfl, h3⟩; rw [HW1.out] at h3; have H3 := Lib.hid h3; have hlk := HLK.out w3 h3; have e1 := (h3.cell (p := ⟨g, 1, none⟩) (blk_lt G1.out)).trans (blk_cell G1.out 1); have e2 := (h3.cell (p := ⟨g, 2, none⟩) (blk_lt G1.out)).trans (blk_cell G1.out 2); have hg3 := Nat.lt_of_lt_of_le (blk_lt G1.out) h3.size; clear h3)
    go_quiet (fail)
    go_wp2
    generalize hW6 : (w3.alloc (.cells #[.int .u8 x0, .int .u8 x1, .int .u8 x2, .int .u8 x3] 50)).drewN nq = W6
    have f6 : Same w3 W6 := by rw [← hW6]; exact ((Fr.refl _ w3).alloc _).drewN nq
    have z6 : W6.heap.size = w3.heap.size + 1 := by rw [← hW6]; exact World.size_alloc _ _
    have m6 : W6.cell? ⟨g, 1, none⟩ = some (.map (some BM)) := f6.cell e1 (fun h => h)
    have kb : W6.heap[w3.heap.size]? = some (.cells #[.int .u8 x0, .int .u8 x1, .int .u8 x2, .int .u8 x3] 50 (0, 0)) := by rw [← hW6]; exact blk_new w3 _
    have k0 := blk_cell kb 0
    have k1 := blk_cell kb 1
    have k2 := blk_cell kb 2
    have k3 := blk_cell kb 3
    have F6 := Lib.hid f6; have Z6 := Lib.hid z6
    clear hW6 kb f6 z6
    obtain ⟨D, k, hk, hm, hok⟩ := HF.out.map
    have fr6 : Fr (fun k => k = BK) w W6 := (HF0.out.trans' ((Fr.of_below H3.out).mono (fun _ _ h => h.elim))).trans' (F6.out.mono (fun _ _ h => h.elim))
    have own6 := Fin.map_fr hm HF.out.ne_mk fr6
    have KEY : keyOf Try.prog 50 (.agg #[.int .u8 x0, .int .u8 x1, .int .u8 x2, .int .u8 x3]) = some (kl b i) := by rw [← HK.out]; exact key_is b i HB.out
    have OW := Lib.hid own6; have FR := Lib.hid fr6; have HM := Lib.hid hm; have HOK := Lib.hid hok; have HKK := Lib.hid hk; have KEY := Lib.hid KEY
    clear own6 fr6 hm hok hk
    go_still_tail 6, (by kernel_rfl)
    change wpList _ _ _ _ _ W6.drew
    go_wp2_with (at_mapUpdate; refine wpList_mapUpdate_own _ rfl _ _ _ 40 rfl 50 3 law50 Try.underlying40 _ BM k _ rfl OW.out.drew (by unfold maxLen; have := HKK.out; omega) _ _ _ rfl rfl KEY.out _ [] (plainElem_int Try.underlying3 (WalkArith.wf_i64 (by omega))) ?_; intro w7 hown7 hgrow7; have HO7 := Lib.hid hown7; have HG7 := Lib.hid hgrow7; clear hown7 hgrow7)
    go_end0
    refine ⟨rfl, know_end HF.out HB.out HH.out FR.out ?_ HM.out HOK.out HKK.out HO7.out HG7.out⟩
    obtain ⟨cs, h1, h2, h3⟩ := HF.out.back
    have h4 := HW1.out ▸ blk_set h1 i (.int .i64 (-1))
    exact ⟨_, F6.out.blk (blk_below H3.out (blk_lt h4) h4) (fun h => h), by rw [Array.size_setIfInBounds]; exact h2, back_set h2 h3 (-1) (fun e => by have := prev_lt b i i; rw [HQ.out] at *; omega)⟩
end Go.Proofs.Ytclamfdmgflofaa
