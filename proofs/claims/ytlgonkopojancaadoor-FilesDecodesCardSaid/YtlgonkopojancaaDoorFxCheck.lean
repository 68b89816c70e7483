/- The walk of Check. -/
import Derived.Test.YtlgonkopojancaaDoorFxList
import Derived.Maps.Own
import Derived.Maps.OwnOps
import Derived.Maps.Views
namespace Go.Proofs.YtlgonkopojancaaDoor
open Go.RowKit Go.Maps

/-- is it among them? -/
def inL (s : ByteArray) (S : List ByteArray) : Bool := S.any (fun t => decide (t = s))
def namesOk : List ByteArray → List Fi → Bool
  | _, [] => true
  | S, f :: fs => nameB f.name && !inL f.name S && namesOk (S ++ [f.name]) fs
def total (fs : List Fi) : Nat := (fs.map (fun f => f.body.length)).sum
def wide (fs : List Fi) : Bool := fs.any (fun f => decide (4095 < f.mode))
def checkI (fs : List Fi) : Int := if namesOk [] fs then (if decide (200 < fs.length) || wide fs || decide (2097152 < total fs) then 161 else 0) else 160

theorem keyed9 : Keyed Tryd.prog 9 := string_keyed Tryd.underlying9
theorem zero3 (w : World) : (zeroValue 3).run Tryd.prog w = .ok (.int .i64 0) w := by kernel_rfl

/-- the names that are seen -/
def Seen (w : World) (M k : Nat) (S : List ByteArray) : Prop :=
  ∃ D : DataW Unit, w.ownsMap Tryd.prog 9 (plainElem Tryd.prog 3) M k D ∧ IsMap D ∧ ∀ s : ByteArray, D.atKey (.string s.data.toList) (.lit (.int .i64 0)) = .lit (.int .i64 (if inL s S then 1 else 0))
theorem Seen.fr {w w' : World} {M k : Nat} {S : List ByteArray} {T : Nat → Prop} (h : Seen w M k S) (f : Fr T w w') (hT : ¬ T M) : Seen w' M k S := by
  obtain ⟨D, ⟨es, cl, hb, hr⟩, hm, ha⟩ := h
  exact ⟨D, ⟨es, cl, f.blk hb hT, hr⟩, hm, ha⟩
theorem Seen.start (w : World) : Seen (w.alloc (.map #[] 0)) w.heap.size 0 [] :=
  ⟨.map [], World.ownsMap_made _ _ _ _, isMap_empty, fun s => by simp [DataW.atKey, inL]⟩
theorem Seen.lookup {w : World} {M k : Nat} {S : List ByteArray} (h : Seen w M k S) (s : ByteArray) (hs : s.size ≤ maxLen) : (Instr.lookup 57 (.map (some M)) (.string s) false).run Tryd.prog w = .ok (.int .i64 (if inL s S then 1 else 0)) w := by
  obtain ⟨D, ho, hm, ha⟩ := h
  obtain ⟨c, hrun, hat, _⟩ := ho.lookup_int keyed9 Tryd.underlying57 Tryd.underlying3 (zero3 _) (Go.WideMaps.keyOf_string_mk Tryd.underlying9 hs)
  rw [ha s] at hat
  injection hat with hat
  injection hat with _ hat
  rw [hrun, hat]
theorem seen_put {S : List ByteArray} {D : DataW Unit} (hm : IsMap D) (ha : ∀ s : ByteArray, D.atKey (.string s.data.toList) (.lit (.int .i64 0)) = .lit (.int .i64 (if inL s S then 1 else 0))) (s : ByteArray) :
    ∀ t : ByteArray, (D.put (.string s.data.toList) (.lit (.int .i64 1))).atKey (.string t.data.toList) (.lit (.int .i64 0)) = .lit (.int .i64 (if inL t (S ++ [s]) then 1 else 0)) := by
  intro t
  by_cases h : t = s
  · subst h
    rw [atKey_put_same hm (show WideAt.IsKeyLit (.string t.data.toList) from trivial), if_pos (by simp [inL])]
  · have hne : (Lit.string t.data.toList) ≠ Lit.string s.data.toList := fun e => h (bytes_ext _ _ (by injection e))
    rw [atKey_put_other hne, ha t]
    have : inL t (S ++ [s]) = inL t S := by unfold inL; rw [List.any_append]; simp; exact fun e => absurd e.symm h
    rw [this]

theorem ret_int {a b : Int} (h : a = b) : Ending.returned (.int .i64 a) = .returned (.int .i64 b) := by rw [h]
theorem own_isMap {w : World} {k b n : Nat} {R : Value → Option (DataW Unit × List MemPlace)} {D : DataW Unit} (h : w.ownsMap Tryd.prog k R b n D) : IsMap D := by
  obtain ⟨es, cl, _, _, _, rfl⟩ := h
  exact ⟨_, rfl⟩
theorem wrap64_small {x : Int} (h0 : 0 ≤ x) (h1 : x ≤ 9223372036854775807) : wrap64 x = x := by
  unfold wrap64; omega
theorem total_snoc (fs : List Fi) (f : Fi) : total (fs ++ [f]) = total fs + f.body.length := by simp [total]
theorem wide_snoc (fs : List Fi) (f : Fi) : wide (fs ++ [f]) = (wide fs || decide (4095 < f.mode)) := by simp [wide]
theorem total_le (fs : List Fi) (B : Nat) (h : ∀ f ∈ fs, f.body.length ≤ B) : total fs ≤ fs.length * B := by
  induction fs with
  | nil => simp [total]
  | cons f fs ih =>
    have h1 := ih (fun g hg => h g (by simp [hg]))
    have h2 := h f (by simp)
    unfold total at *
    simp only [List.map_cons, List.sum_cons, List.length_cons]
    rw [Nat.add_mul]
    omega
theorem take_snoc {α : Type} {l : List α} {k : Nat} (h : k < l.length) [Inhabited α] : l.take (k + 1) = l.take k ++ [l.getD k default] := by
  rw [List.take_succ_eq_append_getElem h, List.getD_eq_getElem?_getD, List.getElem?_eq_getElem h]; rfl
theorem drop_cons {α : Type} {l : List α} {k : Nat} (h : k < l.length) [Inhabited α] : l.drop k = l.getD k default :: l.drop (k + 1) := by
  rw [List.drop_eq_getElem_cons h, List.getD_eq_getElem?_getD, List.getElem?_eq_getElem h]; rfl

set_option maxRecDepth 20000 in
set_option maxHeartbeats 4000000 in
theorem check_any (fs : List Fi) (A : Option Addr) (n c : Nat) (m : Int) (w : World) (hm : w.cell? ⟨0, 0, none⟩ = some (.int .i64 m)) (hf : FRd w A n fs) (hn : n ≤ 1000000) (hb : ∀ f ∈ fs, f.body.length ≤ 1000000) (hs : ∀ f ∈ fs, f.name.size ≤ 9223372036854775807) :
    Calls Tryd.prog 23 #[.slice A n c] w fun e w' => e = .returned (.int .i64 (checkI fs)) ∧ Below w.heap.size w w' := by
  have hmm := @run_makeMap Tryd.prog
  have e25 : ∀ args w, (callFunc 25 args).run Tryd.prog w = .ok (.enter 25 args) w := enters_of Tryd.func25 (by kernel_rfl) rfl
  have HF := Lib.hid hf; have HM := Lib.hid hm; have HBL := Lib.hid hb; have HSZ := Lib.hid hs
  have hl := hf.1
  have HL := Lib.hid hl
  have HM0 : Hid (0 < w.heap.size) := World.block_lt_of_cell? w _ hm
  clear hf hm hb hs hl
  go_enter Tryd.func23, Tryd.ntmps23
  go_wp2
  go_loopw [4, 5, 7, 11] (fun v4 v5 _ v11 wr => ∃ k : Nat, v11 = .int .i64 k ∧ v4 = .int .i64 (total (fs.take k)) ∧ v5 = .bool (wide (fs.take k)) ∧ Hid (k ≤ n) ∧ Hid (Below w.heap.size w wr) ∧ Hid (Seen wr w.heap.size k ((fs.take k).map Fi.name)) ∧ Hid (namesOk [] fs = namesOk ((fs.take k).map Fi.name) (fs.drop k))) (fun _ _ _ v11 _ => n - (intOf v11).toNat)
  case atStart => exact ⟨0, rfl, rfl, rfl, Nat.zero_le _, (Below.refl _ _).alloc (Nat.le_refl _) _, Seen.start w, rfl⟩
  case round =>
    obtain ⟨k, rfl, rfl, rfl, HK, HB, HSN, HNM⟩ := hrel
    by_cases hk : (k : Int) < n
    · obtain ⟨b, o, A1, n1, c1, rfl, hr1, hc1⟩ := (HF.out.same HB.out).load (j := k) (by omega)
      have hst := hc1 wr (Below.refl _ _)
      have hkl : k < fs.length := by have := HL.out; omega
      have hmem : fs.getD k default ∈ fs := by rw [List.getD_eq_getElem?_getD, List.getElem?_eq_getElem hkl]; exact List.getElem_mem _
      have hbl := HBL.out _ hmem
      have hsz := HSZ.out _ hmem
      have hts := take_snoc hkl
      have hdc := drop_cons hkl
      have htl := total_le (fs.take k) 1000000 (fun f hf => HBL.out f (List.mem_of_mem_take hf))
      obtain ⟨f, hfe⟩ : ∃ f, fs.getD k default = f := ⟨_, rfl⟩
      rw [hfe] at hst hbl hsz hts hdc
      have hrl := hr1.1
      rw [hfe] at hrl
      obtain ⟨fn, fm, ft, fb⟩ := f
      obtain ⟨q0, q1, q2, q3⟩ := hst
      dsimp only at *
      have hT : total (fs.take k) ≤ 1000000000000 := by rw [List.length_take] at htl; omega
      obtain ⟨T, hTe⟩ : ∃ T, total (fs.take k) = T := ⟨_, rfl⟩
      obtain ⟨Wd, hWe⟩ : ∃ Wd, wide (fs.take k) = Wd := ⟨_, rfl⟩
      rw [hTe] at hT
      have HTS := Lib.hid hts; have HDC := Lib.hid hdc; have HRL := Lib.hid hrl; have HTE := Lib.hid hTe; have HWE := Lib.hid hWe
      rw [hTe, hWe]
      clear hc1 hr1 hfe hmem hts hdc htl hrl hTe hWe
      have hBo : Below w.heap.size w (wr.alloc (.cells #[.string fn, .int .u32 fm, .int .i64 ft, .slice A1 n1 c1] 33)) := HB.out.alloc HB.out.size _
      have hN := name_any fn m _ ((hBo.cell (p := ⟨0, 0, none⟩) HM0.out).trans HM.out) hsz
      have HN := Lib.hid hN; have HBO := Lib.hid hBo
      clear hN hBo
      go_wp2_with fail
      refine HN.out.mono ?_
      rintro e w2 ⟨rfl, hb2⟩
      have hblk := (hb2.block wr.heap.size (by simp)).trans (blk_new wr _)
      have k0 : w2.cell? ⟨wr.heap.size, 0, none⟩ = some (.string fn) := by rw [blk_cell hblk]; rfl
      have k1 : w2.cell? ⟨wr.heap.size, 1, none⟩ = some (.int .u32 fm) := by rw [blk_cell hblk]; rfl
      have k3 : w2.cell? ⟨wr.heap.size, 3, none⟩ = some (.slice A1 n1 c1) := by rw [blk_cell hblk]; rfl
      have hMlt : w.heap.size < wr.heap.size := by
        obtain ⟨D, ⟨es, cl, hb, _⟩, _⟩ := HSN.out
        exact (Array.getElem?_eq_some_iff.1 hb).1
      have hB2 : Below w.heap.size w w2 := HBO.out.trans (hb2.mono HBO.out.size)
      have hS2 : Seen w2 w.heap.size k ((fs.take k).map Fi.name) := HSN.out.fr (((Fr.refl (fun _ => False) wr).alloc (.cells #[.string fn, .int .u32 fm, .int .i64 ft, .slice A1 n1 c1] 33)).trans' (Fr.of_below hb2)) (fun h => h)
      have HB2 := Lib.hid hB2; have HS2 := Lib.hid hS2; have HBK := Lib.hid hblk
      clear hb2 hB2 hS2 hblk
      by_cases hok : nameB fn = true
      · have hfs : fn.size ≤ 100 := by
          unfold nameB at hok
          simp only [Bool.and_eq_true, decide_eq_true_eq] at hok
          exact hok.2.1
        have hlk := HS2.out.lookup fn (by unfold maxLen; omega)
        have HOK := Lib.hid hok
        rw [hok]
        by_cases hin : inL fn ((fs.take k).map Fi.name) = true
        · rw [if_pos hin] at hlk
          have hres : checkI fs = 160 := by
            unfold checkI
            rw [HNM.out, HDC.out, namesOk, HOK.out, hin]
            rfl
          have HRES := Lib.hid hres
          clear hin hok hres
          go_wp2
          go_ret
          exact ⟨ret_int HRES.out.symm, HB2.out⟩
        · rw [if_neg hin] at hlk
          have HIN := Lib.hid hin
          clear hin hok
          obtain ⟨D, hD1, hD2, hD3⟩ := HS2.out
          have HD1 := Lib.hid hD1; have HD2 := Lib.hid hD2; have HD3 := Lib.hid hD3
          clear hD1 hD2 hD3
          have KEY := Lib.hid (Go.WideMaps.keyOf_string_mk Tryd.underlying9 (s := fn) (by unfold maxLen; omega))
          have hl13 : ∀ w3 : World, w2.grownBy w3 (some w.heap.size) → w3.cell? ⟨wr.heap.size, 1, none⟩ = some (.int .u32 fm) ∧ w3.cell? ⟨wr.heap.size, 3, none⟩ = some (.slice A1 n1 c1) := fun w3 hg => by
            have hbk3 := (hg.block wr.heap.size (blk_lt HBK.out) (fun e => absurd (Option.some.inj e) (by omega))).trans HBK.out
            exact ⟨by rw [blk_cell hbk3]; rfl, by rw [blk_cell hbk3]; rfl⟩
          have HL13 := Lib.hid hl13
          clear hl13
          go_wp2_with (at_mapUpdate; refine wpList_mapUpdate_own _ rfl _ _ _ 57 rfl 9 3 keyed9 Tryd.underlying57 _ w.heap.size k _ rfl HD1.out (by unfold maxLen; omega) _ _ _ rfl rfl KEY.out _ [] (plainElem_int Tryd.underlying3 (WalkArith.wf_i64 (by omega))) ?_; intro w3 hown3 hgrow3; have HO3 := Lib.hid hown3; have HGR := Lib.hid (Fr.of_grown hgrow3); have l1 := HL13.out w3 hgrow3; have l3 := l1.2; have l1 := l1.1; clear hown3 hgrow3)
          all_goals
            go_roundw
            case rel =>
              have hn1 : fb.length = n1 := HRL.out
              have ht : total (fs.take (k + 1)) = T + n1 := by rw [HTS.out, total_snoc, HTE.out]; dsimp only; omega
              refine ⟨k + 1, by go_num, ?_, ?_, (by omega : k + 1 ≤ n), HB2.out.trans (HGR.out.below _ (by have := HB2.out.size; omega) (fun j hj e => by have := Option.some.inj e; omega)), ?_, ?_⟩
              · rw [ht, wrap64_small (by omega) (by omega)]; rfl
              · rw [HTS.out, wide_snoc, HWE.out]
                first
                  | rfl
                  | simp_all
              · show Seen _ _ _ _
                rw [HTS.out, List.map_append]
                exact ⟨_, HO3.out, (own_isMap HO3.out), seen_put HD2.out HD3.out fn⟩
              · show namesOk [] fs = _
                rw [HNM.out, HDC.out, namesOk, HTS.out, List.map_append, HOK.out]
                have : inL fn ((fs.take k).map Fi.name) = false := by simpa using HIN.out
                rw [show (Fi.mk fn fm ft fb).name = fn from rfl, this]
                simp
            case measure => simp [intOf]; omega
      · have hok' : nameB fn = false := by simpa using hok
        have hres : checkI fs = 160 := by
          unfold checkI
          rw [HNM.out, HDC.out, namesOk, hok']
          rfl
        have HRES := Lib.hid hres
        rw [hok']
        clear hok hok' hres
        go_wp2
        go_ret
        exact ⟨ret_int HRES.out.symm, HB2.out⟩
    · have hkn : k = n := by have := HK.out; omega
      have ht : fs.take k = fs := List.take_of_length_le (by have := HL.out; omega)
      have hd : fs.drop k = [] := List.drop_of_length_le (by have := HL.out; omega)
      have hok : namesOk [] fs = true := by rw [HNM.out, hd]; rfl
      have HOK := Lib.hid hok
      rw [ht]
      obtain ⟨T, hTe⟩ : ∃ T, total fs = T := ⟨_, rfl⟩
      obtain ⟨Wd, hWe⟩ : ∃ Wd, wide fs = Wd := ⟨_, rfl⟩
      rw [hTe, hWe]
      have HCI : Hid (checkI fs = if decide (200 < n) || Wd || decide (2097152 < T) then 161 else 0) := (by unfold checkI; rw [hok, hWe, hTe, HL.out]; rfl : checkI fs = if decide (200 < n) || Wd || decide (2097152 < T) then 161 else 0)
      clear ht hd hok hTe hWe
      by_cases h1 : (200 : Int) < n
      · have hr : Hid (checkI fs = 161) := (by rw [HCI.out, decide_eq_true (by omega : 200 < n)]; rfl : checkI fs = 161)
        go_wp2
        go_ret
        exact ⟨ret_int hr.out.symm, HB.out⟩
      · cases Wd with
        | true =>
          have hr : Hid (checkI fs = 161) := (by rw [HCI.out, Bool.or_true]; rfl : checkI fs = 161)
          go_wp2
          go_ret
          exact ⟨ret_int hr.out.symm, HB.out⟩
        | false =>
          by_cases h3 : (2097152 : Int) < T
          · have hr : Hid (checkI fs = 161) := (by rw [HCI.out, decide_eq_true (by omega : 2097152 < T), Bool.or_true]; rfl : checkI fs = 161)
            go_wp2
            go_ret
            exact ⟨ret_int hr.out.symm, HB.out⟩
          · have hr : Hid (checkI fs = 0) := (by rw [HCI.out, decide_eq_false (by omega : ¬ 2097152 < T), decide_eq_false (by omega : ¬ 200 < n)]; rfl : checkI fs = 0)
            go_wp2
            go_ret
            exact ⟨ret_int hr.out.symm, HB.out⟩
end Go.Proofs.YtlgonkopojancaaDoor
