/- The walk of the reference's Unpad. -/
import Derived.Test.YtobepippjhmeaaaDoorBkUnpad
namespace Go.Proofs.YtobepippjhmeaaaDoor
open Go.RowKit
open Bk

theorem strOfNums_inj {xs ys : List Int} (hx : ∀ x ∈ xs, 0 ≤ x ∧ x ≤ 255) (hy : ∀ x ∈ ys, 0 ≤ x ∧ x ≤ 255) (h : strOfNums xs = strOfNums ys) : xs = ys := by
  have h2 : (strOfNums xs).data.toList = (strOfNums ys).data.toList := by rw [h]
  rw [strOfNums_data, strOfNums_data] at h2
  induction xs generalizing ys with
  | nil =>
    cases ys with
    | nil => rfl
    | cons y ys => simp at h2
  | cons x xs ih =>
    cases ys with
    | nil => simp at h2
    | cons y ys =>
      simp only [List.map_cons, List.cons.injEq] at h2
      have hx0 := hx x (by simp)
      have hy0 := hy y (by simp)
      have e : x = y := by
        have := congrArg UInt8.toNat h2.1
        simp at this
        omega
      rw [e, ih (fun z hz => hx z (by simp [hz])) (ys := ys) (fun z hz => hy z (by simp [hz])) (by
        have h3 := h2.2
        unfold strOfNums
        rw [h3]) h2.2]

theorem str_ne {xs ys : List Int} (hx : ∀ x ∈ xs, 0 ≤ x ∧ x ≤ 255) (hy : ∀ x ∈ ys, 0 ≤ x ∧ x ≤ 255) (h : ¬ xs = ys) : ((strOfNums xs).toList == (strOfNums ys).toList) = false := by
  rw [beq_eq_false_iff_ne]
  intro e
  rw [ByteArray.toList_eq, ByteArray.toList_eq] at e
  refine h (strOfNums_inj hx hy ?_)
  have : ∀ a b : ByteArray, a.data.toList = b.data.toList → a = b := by
    rintro ⟨⟨a⟩⟩ ⟨⟨b⟩⟩ h
    simp at h
    rw [h]
  exact this _ _ e

/-- string(b), b a slice of bytes that is read -/
theorem conv_reads {w : World} {A : Option Addr} {n c : Nat} {xs : List Int} (h : Reads w .u8 A n xs) : (convert 23 9 (.slice A n c)).run Tryd.prog w = .ok (.string (strOfNums xs)) w := by
  have hn : xs.length = n := h.1
  rcases A with _ | ad
  · obtain ⟨rfl, rfl⟩ := h.none
    exact run_convert_bytes_nil w 23 5 Tryd.underlying23 Tryd.underlying5 0 c 9 Tryd.underlying9
  · have hl : (loadCells ad n).run Tryd.prog w = .ok (xs.map (Value.int .u8)).toArray w := by
      have := run_loadCells_list (P := Tryd.prog) w ad (xs.map (Value.int .u8)) (fun j v hj => by
        have hjl : j < xs.length := by
          have := (List.getElem?_eq_some_iff.1 hj).1
          simpa using this
        exact h.cells rfl (by omega) j v hj)
      simpa [hn] using this
    rw [run_convert_bytes_string w 23 9 5 _ n c Tryd.underlying23 Tryd.underlying5 Tryd.underlying9, run_bytesToString w ad n c xs hl, foldl_push_bytes]
    simp [strOfNums, ByteArray.empty, ByteArray.emptyWithCapacity]
    rfl

theorem padL_bytes {zs : List Int} (h : ∀ x ∈ zs, 0 ≤ x ∧ x ≤ 255) : ∀ x ∈ padL zs, 0 ≤ x ∧ x ≤ 255 := by
  intro x hx
  unfold padL at hx
  rcases List.mem_append.1 hx with hx | hx
  · exact h x hx
  · rcases List.mem_cons.1 hx with hx | hx
    · omega
    · have := List.eq_of_mem_replicate hx; omega

set_option maxRecDepth 20000 in
set_option maxHeartbeats 1000000 in
theorem runpad_any (A : Option Addr) (c : Nat) (zs : List Int) (t : Nat) (w : World) (hr : Reads w .u8 A zs.length zs) (hc : zs.length ≤ c) (hl : zs.length ≤ 1000000) (ht : IsTrim zs t) (hx : ∀ x ∈ zs, 0 ≤ x ∧ x ≤ 255) :
    Calls Tryd.prog 16 #[.slice A zs.length c] w fun e w' => Gave w (ux zs t) (ue zs t) e w' := by
  have htl := ht.le
  have HR := Lib.hid hr; clear hr
  have HTr := Lib.hid ht; clear ht
  have HX := Lib.hid hx; clear hx
  obtain ⟨L, hL⟩ : ∃ L, zs.length = L := ⟨_, rfl⟩
  have HL := Lib.hid hL
  rw [hL] at htl hc HR hl ⊢
  clear hL
  have hlI : (L : Int) ≤ 1000000 := by omega
  have htI : (t : Int) ≤ L := by omega
  have hcI : (L : Int) ≤ c := by omega
  have HLL := Lib.hid hl; clear hl
  have HCC := Lib.hid hc; clear hc
  have HTL := Lib.hid htl; clear htl
  go_enter Tryd.func16, Tryd.ntmps16
  go_wp2
  go_loopw [4] (fun v wr => ∃ k : Nat, v = .int .i64 k ∧ (t : Int) ≤ k ∧ (k : Int) ≤ L ∧ wr = w) (fun v _ => (intOf v).toNat)
  case atStart => exact ⟨L, rfl, htI, Int.le_refl _, rfl⟩
  case round =>
    obtain ⟨k, rfl, hk, hkL, rfl⟩ := hrel
    by_cases hkt : (t : Int) < k
    · obtain ⟨b, o, rfl, hcells⟩ := HR.out.2.2 (by omega)
      obtain ⟨k, rfl⟩ := Nat.exists_eq_add_of_le' (show 1 ≤ k by omega)
      have ck := hcells k (by omega)
      rw [HTr.out.zero k (by omega) (by rw [HL.out]; omega)] at ck
      clear hcells
      go_wp2
      go_roundw
      case rel => exact ⟨k, by go_num, by omega, by omega, trivial⟩
      case measure => simp [intOf]
    · obtain rfl : k = t := by omega
      rcases Nat.eq_zero_or_pos k with rfl | h0
      · have HG := Lib.hid (fun w' b => gave_bad (w := wr) (w' := w') (zs := zs) (t := 0) (fun h => absurd h.1 (by omega)) b)
        go_wp2
        go_ret2
        exact HG.out _ (Below.refl _ _)
      · obtain ⟨n, rfl⟩ := Nat.exists_eq_add_of_le' h0
        obtain ⟨b, o, rfl, hcells⟩ := HR.out.2.2 (by omega)
        have ck := hcells n (by omega)
        clear hcells
        have hne : zs.getD n 0 ≠ 0 := by have := HTr.out.last (by omega); rw [Nat.add_sub_cancel] at this; exact this
        have hlt : (zs.take n).length = n := by rw [List.length_take, HL.out]; omega
        have HTK := Lib.hid (HR.out.take n (by omega))
        have hC := rpad_any (some ⟨b, o, none⟩) c (zs.take n) wr (by rw [hlt]; exact HTK.out) (by omega)
        have hAg := again zs (n + 1) HTr.out (by omega) (by rw [HL.out]; omega)
        rw [Nat.add_sub_cancel] at hAg
        have hPB := padL_bytes (zs := zs.take n) (fun x hx => HX.out x (List.mem_of_mem_take hx))
        obtain ⟨pl, hpl⟩ : ∃ pl, padL (zs.take n) = pl := ⟨_, rfl⟩
        rw [hpl] at hC hAg hPB
        rw [hlt] at hC
        have HLT := Lib.hid hlt; clear hlt hpl
        have HC := Lib.hid hC; clear hC
        generalize zs.getD n 0 = x at *
        have hxb : (x == 0) = false := by rw [beq_eq_false_iff_ne]; exact hne
        have hnI : (n : Int) ≤ 1000000 := by omega
        have hn1 : ¬ ((n : Int) + 1 = 0) := by omega
        have hn2 : ¬ ((4194304 : Int) < (n : Int) + 1) := by omega
        have hcn : n ≤ c := by omega
        clear hne hlI htI hcI hk hkL hkt h0
        by_cases hg : pl = zs
        · have hgd := hAg.1 hg
          have EG := Lib.hid (ue_good hgd)
          have hs : strOfNums pl = strOfNums zs := by rw [hg]
          clear hgd hAg hPB hg
          go_wp2_with (first
            | (go_at_call 14; refine HC.out.mono ?_; rintro e w2 ⟨A2, c2, rfl, h1, h2⟩; have q1 := conv_reads (c := c2) h1; have q2 := conv_reads (c := c) (HR.out.same h2); have H2 := Lib.hid h2; clear h1 h2)
            | (at_builtin; refine wpList_append_reads rfl (.tmp 44) (.tmp 48) 23 5 rfl Tryd.underlying23 info5 (.slice (some ⟨w2.heap.size, 0, none⟩) 0 0) 0 n c (some ⟨b, o, none⟩) [] (zs.take n) rfl rfl (World.ownsRow_made w2 #[] 0 (Nat.zero_le _) (Nat.zero_le _) rfl) ((HTK.out.same H2.out).same (below_fr ((Fr.refl _ _).alloc _))) (by omega) ?_; intro v3 w3 hown hfr hloc; rw [Nat.zero_add] at hown; obtain ⟨A3, k3, rfl⟩ := own_shape hown; have HO3 := Lib.hid hown; clear hown; have HF3 := Lib.hid hfr; clear hfr hloc))
          go_ret2
          obtain ⟨A4, k4, he, hr4⟩ := own_reads HO3.out
          injection he with e1 e2 e3
          subst e1
          show Gave wr (ux zs (n + 1)) (ue zs (n + 1)) _ _
          rw [EG.out.1, EG.out.2, Nat.add_sub_cancel]
          refine ⟨A3, k3, by rw [HLT.out]; rfl, by rw [HLT.out]; exact hr4, ?_⟩
          have f1 : Same w2 (w2.alloc (.cells #[] 5)) := (Fr.refl _ _).alloc _
          have b2 := (below_fr f1).trans (HF3.out.below w2.heap.size f1.size (fun k hk e => by simp [Value.ownBlock] at e; omega))
          exact H2.out.trans (b2.mono H2.out.size)
        · have hgd : ¬ good zs (n + 1) := fun h => hg (hAg.2 h)
          have HG := Lib.hid (fun w' b => gave_bad (w := wr) (w' := w') hgd b)
          have hs : ((strOfNums pl).toList == (strOfNums zs).toList) = false := str_ne hPB HX.out hg
          clear hgd hAg hPB hg
          go_wp2_with fail
          refine HC.out.mono ?_
          rintro e w2 ⟨A2, c2, rfl, h1, h2⟩
          have q1 := conv_reads (c := c2) h1
          have q2 := conv_reads (c := c) (HR.out.same h2)
          have H2 := Lib.hid h2
          clear h1 h2 hn1 hn2 hxb ck
          go_wp2
          go_ret2
          exact HG.out _ H2.out
end Go.Proofs.YtobepippjhmeaaaDoor
