/- The walk of MatchSplit. -/
import Derived.Test.YtclamfdmgflofaaMxWExpands
namespace Go.Proofs.Ytclamfdmgflofaa
open Go.RowKit
open Mx

/-- tokens that are read: the first ones, and the others -/
theorem ReadsT.take {w : World} {A : Option Addr} {n : Nat} {ts : List Tok} (h : ReadsT w A n ts) (p : Nat) (hp : p ≤ n) : ReadsT w A p (ts.take p) :=
  ⟨by rw [List.length_take, h.1]; omega, fun hm => by
    obtain ⟨b, o, e, hc⟩ := h.2 (by omega)
    refine ⟨b, o, e, fun i hi => ?_⟩
    have : (ts.take p).getD i (0, 0, 0) = ts.getD i (0, 0, 0) := by
      rw [List.getD_eq_getElem?_getD, List.getD_eq_getElem?_getD, List.getElem?_take_of_lt hi]
    rw [this]
    exact hc i (by omega)⟩
theorem ReadsT.drop {w : World} {A : Option Addr} {n : Nat} {ts : List Tok} (h : ReadsT w A n ts) (p : Nat) : ReadsT w (A.map (fun x => x.add (p * 3))) (n - p) (ts.drop p) :=
  ⟨by rw [List.length_drop, h.1], fun hm => by
    obtain ⟨b, o, e, hc⟩ := h.2 (by omega)
    refine ⟨b, o + p * 3, by rw [e]; simp [Addr.add], fun i hi => ?_⟩
    have : (ts.drop p).getD i (0, 0, 0) = ts.getD (p + i) (0, 0, 0) := by
      rw [List.getD_eq_getElem?_getD, List.getD_eq_getElem?_getD, List.getElem?_drop]
    rw [this, show o + p * 3 + i * 3 = o + (p + i) * 3 by omega]
    exact hc (p + i) (by omega)⟩

theorem ReadsT.zero (w : World) (A : Option Addr) : ReadsT w A 0 [] := ⟨rfl, fun h => absurd h (by decide)⟩
theorem ex_len (h : Nat) (most : Int) : ∀ (ts : List Tok) (all : List Int), (ex h most ts all).1.length ≤ all.length + 258 * ts.length
  | [], all => by simp [ex]
  | t :: ts, all => by
    rw [ex]
    split
    · simp
    · rename_i c1
      split
      · simp
      · have hck : ck t = 0 := by
          rcases ck_cases t with h | h
          · exact h
          · exact absurd (.inl (by rw [h]; decide)) c1
        have h1 := ex_len h most ts (put t all)
        have h2 := (put_len hck all).2
        rw [List.length_cons]
        omega
theorem str_size (xs : List Int) : (strOfNums xs).size = xs.length := by
  unfold strOfNums
  simp [ByteArray.size]
theorem str_append (xs ys : List Int) : (strOfNums xs ++ strOfNums ys) = strOfNums (xs ++ ys) := by
  unfold strOfNums
  apply ByteArray.ext
  simp

set_option maxRecDepth 20000 in
set_option maxHeartbeats 4000000 in
theorem matchSplit_walk (w : World) (a0 : Option Addr) (len0 cap0 : Nat) (ts : List Tok) (ht : ToksIn w a0 len0 cap0 ts) (k : Int) (hk : -9223372036854775808 ≤ k ∧ k ≤ 9223372036854775807) :
    Calls Try.prog 8 #[.slice a0 len0 cap0, .int .i64 k] w fun e w' => e = .returned (.bool true) ∧ Below w.heap.size w w' := by
  have HT := Lib.hid ht; clear ht
  obtain ⟨hk1, hk2⟩ := hk
  by_cases h6 : (60 : Int) < len0
  · go_enter Try.func8, Try.ntmps8
    go_wp2_with (go_at_call 10; refine (awake_any w).mono ?_; rintro e w1 ⟨rfl, hb⟩; have HB := Lib.hid hb; clear hb)
    go_ret
    exact ⟨rfl, HB.out⟩
  have hpos : ∃ p : Nat, p ≤ len0 ∧ ((0 ≤ k ∧ k % ((len0 : Int) + 1) = (p : Int)) ∨ (k < 0 ∧ (k + 1).tmod ((len0 : Int) + 1) = -(p : Int))) := by
    by_cases hk0 : k < 0
    · have h1 : (0 : Int) ≤ -(k + 1) := by omega
      have h2 := Int.emod_nonneg (-(k + 1)) (show ((len0 : Int) + 1) ≠ 0 by omega)
      have h3 := Int.emod_lt_of_pos (-(k + 1)) (show (0 : Int) < (len0 : Int) + 1 by omega)
      refine ⟨(-(k + 1) % ((len0 : Int) + 1)).toNat, by omega, .inr ⟨hk0, ?_⟩⟩
      have h4 : (-(k + 1)).tmod ((len0 : Int) + 1) = -(k + 1) % ((len0 : Int) + 1) := Int.tmod_eq_emod_of_nonneg h1
      rw [Int.neg_tmod] at h4
      omega
    · have h2 := Int.emod_nonneg k (show ((len0 : Int) + 1) ≠ 0 by omega)
      have h3 := Int.emod_lt_of_pos k (show (0 : Int) < (len0 : Int) + 1 by omega)
      exact ⟨(k % ((len0 : Int) + 1)).toNat, by omega, .inl ⟨by omega, by omega⟩⟩
  obtain ⟨p, hpl, hp⟩ := hpos
  have hp0 : (p : Int) ≤ len0 := by omega
  have hcI : (len0 : Int) ≤ cap0 := by have := HT.out.cap; omega
  have hd1 : decide ((60 : Int) < (len0 : Int)) = false := decide_eq_false h6
  have hd2 : decide (60 < len0) = false := decide_eq_false (by omega)
  have H6 := Lib.hid (show len0 ≤ 60 by omega)
  have hlI : (len0 : Int) ≤ 60 := by omega
  have HE := Lib.hid (fun w' (b : Below w.heap.size w w') => expand_all none 0 [] 0 a0 cap0 ts len0 20000 w' rfl (Reads.nil _ _ _) (HT.out.reads.same b) (by decide) (by omega) (by decide))
  have HG := Lib.hid (fun w' (b : Below w.heap.size w w') => expand_all none 0 [] 0 a0 cap0 (ts.take p) p 20000 w' rfl (Reads.nil _ _ _) ((HT.out.reads.same b).take p (by omega)) (by decide) (by omega) (by decide))
  have hS := fun h => expand_split ts p 20000 (by decide) h
  have hyl : (expand [] (ts.take p) 20000).1.length ≤ 20000 := by
    unfold expand
    rw [if_neg (by decide)]
    have := ex_len ([] : List Int).length 20000 (ts.take p) []
    have h1 : (ts.take p).length ≤ 60 := by rw [List.length_take, HT.out.reads.1]; omega
    simp only [List.length_nil] at this ⊢
    omega
  have hxl : (expand [] ts 20000).1.length ≤ 20000 := by
    unfold expand
    rw [if_neg (by decide)]
    have := ex_len ([] : List Int).length 20000 ts []
    have h1 := HT.out.reads.1
    simp only [List.length_nil] at this ⊢
    omega
  obtain ⟨X, hX⟩ : ∃ X, expand [] ts 20000 = X := ⟨_, rfl⟩
  obtain ⟨Y, hY⟩ : ∃ Y, expand [] (ts.take p) 20000 = Y := ⟨_, rfl⟩
  rw [hX, hY] at hS
  rw [hX] at HE hxl
  rw [hY] at HG hyl
  obtain ⟨xs, e1⟩ := X
  obtain ⟨ys, e2⟩ := Y
  simp only at hS HE HG hyl hxl
  have HXL := Lib.hid hxl
  clear hxl
  have HS := Lib.hid hS
  have HYL := Lib.hid hyl
  clear hS hX hY hyl
  rcases hp with ⟨hk0, hp⟩ | ⟨hk0, hp⟩
  all_goals
    by_cases hcap : cap0 = p
    · obtain rfl : len0 = p := by have := HT.out.cap; omega
      subst hcap
      have HTD := Lib.hid (fun (w' : World) (_ : Below w.heap.size w w') => (show ReadsT w' a0 0 (ts.drop cap0) by
        have h2 : ts.drop cap0 = [] := List.drop_eq_nil_of_le (by rw [HT.out.reads.1]; omega)
        rw [h2]
        exact ReadsT.zero _ _))
      go_enter Try.func8, Try.ntmps8
      go_wp2_with (go_at_call 10; refine (awake_any w).mono ?_; rintro e w1 ⟨rfl, hb⟩; have HB := Lib.hid hb; clear hb)
      refine (HE.out w1 HB.out).mono ?_
      rintro e w2 ⟨A2, c2, U2, rfl, hr2, hb⟩
      have HB2 := Lib.hid (HB.out.trans (hb.mono HB.out.size)); have R2 := Lib.hid hr2
      clear hr2 hb
      go_wp2_with fail
      refine (HG.out w2 HB2.out).mono ?_
      rintro e w3 ⟨A3, c3, U3, rfl, hr3, hb⟩
      have HB3 := Lib.hid (HB2.out.trans (hb.mono HB2.out.size)); have R3 := Lib.hid hr3; have R2' := Lib.hid (R2.out.same hb)
      clear hr3 hb R2
      by_cases he : e1 = 0
      · obtain ⟨he2, h3, h4⟩ := HS.out he
        subst he
        subst he2
        have HX := expand_all A3 c3 ys U3 a0 (0) (ts.drop cap0) (0) 20000 w3 R3.out.1 R3.out (HTD.out w3 HB3.out) (by rw [← R3.out.1]; exact HYL.out) (by decide) (by decide)
        rw [h3] at HX
        have HX := Lib.hid HX
        have H4 := Lib.hid h4
        clear h3 h4
        go_wp2_with fail
        refine HX.out.mono ?_
        rintro e w4 ⟨A4, c4, U4, rfl, hr4, hb⟩
        have HB4 := Lib.hid (HB3.out.trans (hb.mono HB3.out.size))
        have q4 := conv_reads (c := c4) hr4
        have q3 := conv_reads (c := c3) (R3.out.same hb)
        have q2 := conv_reads (c := c2) (R2'.out.same hb)
        clear hr4 hb
        have hstr : ((strOfNums ys ++ strOfNums (expand ys (ts.drop cap0) 20000).1).toList == (strOfNums xs).toList) = true := by rw [str_append, H4.out]; simp
        have hsz : (strOfNums ys).size + (strOfNums (expand ys (ts.drop cap0) 20000).1).size ≤ 9223372036854775807 := by rw [str_size, str_size, ← List.length_append, H4.out]; have := HXL.out; omega
        generalize (expand ys (ts.drop cap0) 20000).1 = zs at *
        go_wp2
        go_ret
        exact ⟨rfl, HB4.out⟩
      · have hne : (e1 != 0) = true := by rw [bne_iff_ne]; exact he
        clear he
        go_wp2
        go_ret
        exact ⟨rfl, HB3.out⟩

    · have HTD := Lib.hid (fun (w' : World) (b : Below w.heap.size w w') => (HT.out.reads.same b).drop p)
      go_enter Try.func8, Try.ntmps8
      go_wp2_with (go_at_call 10; refine (awake_any w).mono ?_; rintro e w1 ⟨rfl, hb⟩; have HB := Lib.hid hb; clear hb)
      refine (HE.out w1 HB.out).mono ?_
      rintro e w2 ⟨A2, c2, U2, rfl, hr2, hb⟩
      have HB2 := Lib.hid (HB.out.trans (hb.mono HB.out.size)); have R2 := Lib.hid hr2
      clear hr2 hb
      go_wp2_with fail
      refine (HG.out w2 HB2.out).mono ?_
      rintro e w3 ⟨A3, c3, U3, rfl, hr3, hb⟩
      have HB3 := Lib.hid (HB2.out.trans (hb.mono HB2.out.size)); have R3 := Lib.hid hr3; have R2' := Lib.hid (R2.out.same hb)
      clear hr3 hb R2
      by_cases he : e1 = 0
      · obtain ⟨he2, h3, h4⟩ := HS.out he
        subst he
        subst he2
        have HX := expand_all A3 c3 ys U3 (a0.map (fun x => x.add (p * 3))) (cap0 - p) (ts.drop p) (len0 - p) 20000 w3 R3.out.1 R3.out (HTD.out w3 HB3.out) (by rw [← R3.out.1]; exact HYL.out) (by have := H6.out; omega) (by decide)
        rw [h3] at HX
        have HX := Lib.hid HX
        have H4 := Lib.hid h4
        clear h3 h4
        go_wp2_with fail
        refine HX.out.mono ?_
        rintro e w4 ⟨A4, c4, U4, rfl, hr4, hb⟩
        have HB4 := Lib.hid (HB3.out.trans (hb.mono HB3.out.size))
        have q4 := conv_reads (c := c4) hr4
        have q3 := conv_reads (c := c3) (R3.out.same hb)
        have q2 := conv_reads (c := c2) (R2'.out.same hb)
        clear hr4 hb
        have hstr : ((strOfNums ys ++ strOfNums (expand ys (ts.drop p) 20000).1).toList == (strOfNums xs).toList) = true := by rw [str_append, H4.out]; simp
        have hsz : (strOfNums ys).size + (strOfNums (expand ys (ts.drop p) 20000).1).size ≤ 9223372036854775807 := by rw [str_size, str_size, ← List.length_append, H4.out]; have := HXL.out; omega
        generalize (expand ys (ts.drop p) 20000).1 = zs at *
        go_wp2
        go_ret
        exact ⟨rfl, HB4.out⟩
      · have hne : (e1 != 0) = true := by rw [bne_iff_ne]; exact he
        clear he
        go_wp2
        go_ret
        exact ⟨rfl, HB3.out⟩

end Go.Proofs.Ytclamfdmgflofaa
