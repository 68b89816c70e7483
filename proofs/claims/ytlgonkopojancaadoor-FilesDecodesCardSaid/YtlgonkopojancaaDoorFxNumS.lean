/- The walk of the source's number. -/
import Derived.Test.YtlgonkopojancaaDoorFxNumP
import Derived.Laws.Bits64b
import Derived.Laws.ShiftsVar
namespace Go.Proofs.YtlgonkopojancaaDoor
open Go.RowKit

set_option maxRecDepth 100000 in
theorem and127' : ∀ k : Fin 256, bits BinOp.and .u8 ((k.val : Nat) : Int) 127 = ((k.val % 128 : Nat) : Int) := by decide
theorem and127 {x : Int} (h0 : 0 ≤ x) (h1 : x ≤ 255) : bits BinOp.and .u8 x 127 = (((x % 128).toNat : Nat) : Int) := by
  have := and127' ⟨x.toNat, by omega⟩
  simp only at this
  rw [show x = ((x.toNat : Nat) : Int) by omega, this]
  omega
theorem seven_lt {d sh : Nat} (hd : d ≤ 127) (hs : sh ≤ 63) (h7 : sh % 7 = 0) (h : sh < 63 ∨ d ≤ 1) : d * 2 ^ sh < 18446744073709551616 := by
  by_cases h1 : sh < 63
  · have h5 : 2 ^ sh ≤ 2 ^ 56 := Nat.pow_le_pow_right (by decide) (by omega)
    have := Nat.mul_le_mul hd h5
    omega
  · have e : sh = 63 := by omega
    subst e
    have h2 : d ≤ 1 := by omega
    have := Nat.mul_le_mul_right (2 ^ 63) h2
    omega
theorem or_step {x : Int} {acc sh : Nat} (h0 : 0 ≤ x) (h1 : x ≤ 255) (ha : acc < 2 ^ sh) (hs : sh ≤ 63) (h7 : sh % 7 = 0) (h : sh < 63 ∨ x < 2) :
    bits BinOp.or .u64 (acc : Int) (IntKind.u64.wrap (IntKind.u64.wrap (bits BinOp.and .u8 x 127) * 2 ^ sh)) = ((acc + (x % 128).toNat * 2 ^ sh : Nat) : Int) := by
  rw [and127 h0 h1]
  have hd : (x % 128).toNat ≤ 127 := by omega
  have hd2 : sh < 63 ∨ (x % 128).toNat ≤ 1 := by omega
  generalize (x % 128).toNat = d at *
  have hlt := seven_lt hd hs h7 hd2
  have ha2 : acc < 18446744073709551616 := by
    have : 2 ^ sh ≤ 2 ^ 63 := Nat.pow_le_pow_right (by decide) hs
    omega
  have e1 : IntKind.u64.wrap (IntKind.u64.wrap (d : Int) * 2 ^ sh) = ((d * 2 ^ sh : Nat) : Int) := by
    rw [wrap_nat (by omega), show (2 : Int) ^ sh = ((2 ^ sh : Nat) : Int) by push_cast; rfl, ← Int.natCast_mul, wrap_nat hlt]
  rw [e1, bits_or_u64_nat _ _ ha2 hlt]
  congr 1
  rw [Nat.or_comm, Nat.mul_comm, ← Nat.two_pow_add_eq_or_of_lt ha, Nat.add_comm]
theorem acc_lt {x : Int} {acc sh : Nat} (ha : acc < 2 ^ sh) : acc + (x % 128).toNat * 2 ^ sh < 2 ^ (sh + 7) := by
  have hd : (x % 128).toNat ≤ 127 := by omega
  have := Nat.mul_le_mul_right (2 ^ sh) hd
  have e7 : 2 ^ (sh + 7) = 2 ^ sh * 128 := by rw [Nat.pow_add]
  omega
theorem numP_go {x : Int} {xs : List Int} {sh acc : Nat} (h : sh < 63 ∨ x < 2) (h8 : 128 ≤ x) : numP sh acc (x :: xs) = numP (sh + 7) (acc + (x % 128).toNat * 2 ^ sh) xs := by
  rw [numP, if_neg (by omega), if_pos h8]
theorem numP_end {x : Int} {xs : List Int} {sh acc : Nat} (h : sh < 63 ∨ x < 2) (h8 : ¬ 128 ≤ x) (h0 : 0 < x ∨ sh = 0) : numP sh acc (x :: xs) = some (acc + (x % 128).toNat * 2 ^ sh, xs) := by
  rw [numP, if_neg (by omega), if_neg h8, if_pos h0]
theorem numP_zero {x : Int} {xs : List Int} {sh acc : Nat} (h8 : ¬ 128 ≤ x) (h0 : ¬ (0 < x ∨ sh = 0)) : numP sh acc (x :: xs) = none := by
  rw [numP]
  split <;> rfl
theorem numP_big {x : Int} {xs : List Int} {sh acc : Nat} (h : ¬ (sh < 63 ∨ x < 2)) : numP sh acc (x :: xs) = none := by
  rw [numP, if_pos h]

def SrcJ (g : Nat) (A0 : Option Addr) (lv sv : Value) (w0 : World) (xs0 : List Int) (a : Act) (w : World) : Prop :=
  ∃ (u : Nat → Value) (sh acc : Nat) (A : Option Addr) (n c : Nat) (xs : List Int),
    a = { tmps := #[.pointer (some ⟨g, 0, none⟩), undef, .int .u64 acc, .int .i64 sh, u 4, u 5, u 6, u 7, u 8, u 9, u 10, u 11, u 12, u 13, u 14, u 15, u 16, u 17, u 18, u 19, u 20, u 21, u 22, u 23, u 24, u 25, u 26, u 27, u 28, u 29, u 30, u 31, u 32, u 33, u 34], defers := [] } ∧
      Hid (numP sh acc xs = numP 0 0 xs0) ∧ Hid (acc < 2 ^ sh) ∧ sh ≤ 63 ∧ Hid (sh % 7 = 0) ∧ Hid (RB w g (.slice A n c) lv sv) ∧ Hid (Src w g A n c xs) ∧ Hid (FrG g w0 w) ∧ Hid (A.map (·.block) = A0.map (·.block)) ∧ Hid (Bts xs)
def SrcMu (a : Act) (_ : World) : Nat := (63 - intOf (a.tmps.getD 3 undef)).toNat
/-- what the number leaves -/
def NumPost (g : Nat) (A0 : Option Addr) (lv sv : Value) (w0 : World) (xs0 : List Int) (e : Ending) (w' : World) : Prop :=
  FrG g w0 w' ∧ match getN xs0 with
    | some (N, r) => e = .returned (.int .u64 N) ∧ ∃ A n c, RB w' g (.slice A n c) lv sv ∧ Src w' g A n c r ∧ A.map (·.block) = A0.map (·.block)
    | none => e = .panicked EIX

theorem post_none {g : Nat} {A0 : Option Addr} {lv sv : Value} {w0 w' : World} {xs0 : List Int} (hf : FrG g w0 w') (h : getN xs0 = none) : NumPost g A0 lv sv w0 xs0 (.panicked EIX) w' := by
  refine ⟨hf, ?_⟩
  rw [h]
theorem post_some {g : Nat} {A0 A : Option Addr} {n c N : Nat} {r : List Int} {lv sv : Value} {w0 w' : World} {xs0 : List Int} {y : Int} (hf : FrG g w0 w') (h : getN xs0 = some (N, r)) (hy : y = (N : Int)) (hb : RB w' g (.slice A n c) lv sv) (hs : Src w' g A n c r) (hA : A.map (·.block) = A0.map (·.block)) : NumPost g A0 lv sv w0 xs0 (.returned (.int .u64 y)) w' := by
  refine ⟨hf, ?_⟩
  rw [h, hy]
  exact ⟨rfl, A, n, c, hb, hs, hA⟩

set_option maxRecDepth 20000 in
set_option maxHeartbeats 1000000 in
theorem numberS_any (g : Nat) (A : Option Addr) (n c : Nat) (xs : List Int) (lv sv : Value) (w : World) (hg : RB w g (.slice A n c) lv sv) (hs : Src w g A n c xs) (hb : Bts xs) :
    Calls Tryd.prog 44 #[.pointer (some ⟨g, 0, none⟩)] w (NumPost g A lv sv w xs) := by
  have HG := Lib.hid hg; have HS := Lib.hid hs; have HBT := Lib.hid hb
  clear hg hs hb
  go_enter Tryd.func44, Tryd.ntmps44
  go_wp2
  refine wp_scope_loop 0 (SrcJ g A lv sv w xs) SrcMu rfl ?pass ?first
  case first =>
    intro hp
    have HP := Lib.hid hp; clear hp
    go_wp2
    go_step3
    simp only [Exit.then]
    rename_i hK
    refine hK _ _ (HP.out _ _ ?_)
    exact ⟨fun _ => undef, 0, 0, A, n, c, xs, rfl, rfl, (by decide : 0 < 2 ^ 0), by decide, rfl, HG.out, HS.out, Fr.refl _ _, rfl, HBT.out⟩
  case pass =>
    rintro a w1 ⟨u, sh, acc, A1, n1, c1, xs1, rfl, HN, HA, hsh, HM, HG1, HS1, HF, HAB, HB1⟩
    cases xs1 with
    | nil =>
      have hn1 : n1 = 0 := HS1.out.size.symm
      subst hn1
      go_wp2_with fail
      refine (took_no g A1 0 c1 1 _ [] lv sv w1 rfl HG1.out HS1.out (by decide)).mono ?_
      rintro e w2 ⟨rfl, rfl⟩
      exact ⟨rfl, post_none HF.out HN.out.symm⟩
    | cons x xs2 =>
      have hn1 : n1 = xs2.length + 1 := HS1.out.size.symm
      subst hn1
      have hx := HB1.out x (by simp)
      obtain ⟨hx0, hx1⟩ := hx
      go_wp2_with fail
      refine (took_any g A1 _ c1 1 _ (x :: xs2) lv sv w1 rfl HG1.out HS1.out (by omega)).mono ?_
      rintro e w2 ⟨rfl, ht⟩
      obtain ⟨b, o, e, hcell⟩ := reads_at ht.piece (j := 0) (by decide)
      subst e
      have HT := Lib.hid ht; clear ht
      have HF2 : Hid (FrG g w w2) := HF.out.trans' HT.out.fr
      have HAB2 : Hid ((rest (some (⟨b, o, none⟩ : Addr)) 1 c1).map (·.block) = A.map (·.block)) := rest_block.trans HAB.out
      have hcell' : w2.cell? ⟨b, o, none⟩ = some (.int .u8 x) := hcell
      clear hcell
      by_cases hok : sh < 63 ∨ x < 2
      · have HOR := Lib.hid (or_step hx0 hx1 HA.out hsh HM.out hok)
        have HOK := Lib.hid hok
        have HSH : Hid (sh ≤ 63) := hsh
        by_cases h8 : 128 ≤ x
        · have hlt : sh < 63 := by omega
          have hltz : (sh : Int) < 63 := by omega
          clear hok hsh hlt
          go_wp2_with (go_at_call 45; refine (must_true _).mono ?_; rintro e w3 ⟨rfl, rfl⟩)
          go_step3
          rw [HOR.out]
          refine ⟨rfl, ⟨fun i => #[undef, undef, undef, undef, .int .u8 x, .pointer (some ⟨g, 0, none⟩), .slice (some ⟨b, o, none⟩) 1 c1, .pointer (some ⟨b, o, none⟩), .int .u8 x, .int .i64 sh, .bool true, .bool true, undef, undef, .bool true, .tuple #[], .int .u64 acc, .int .u8 x, .int .u8 (bits BinOp.and IntKind.u8 x 127), .int .u64 (IntKind.u64.wrap (bits BinOp.and IntKind.u8 x 127)), .int .i64 sh, .int .u64 (IntKind.u64.wrap (IntKind.u64.wrap (bits BinOp.and IntKind.u8 x 127) * 2 ^ sh)), .int .u64 ((acc + (x % 128).toNat * 2 ^ sh : Nat) : Int), .int .i64 sh, .int .i64 (sh + 7), .int .u8 x, .bool true, u 27, u 28, u 29, u 30, u 31, u 32, u 33, u 34].getD i undef, sh + 7, acc + (x % 128).toNat * 2 ^ sh, _, _, _, xs2, rfl, ?_, ?_, ?_, ?_, HT.out.rb, HT.out.src, HF2.out, HAB2.out, ?_⟩, ?_⟩
          · exact (numP_go HOK.out h8).symm.trans HN.out
          · exact acc_lt HA.out
          · have := HM.out; omega
          · have := HM.out; show (sh + 7) % 7 = 0; omega
          · exact fun y hy => HB1.out y (by simp [hy])
          · simp [SrcMu, intOf]; omega
        · have h8' : ¬ (128 : Int) ≤ x := h8
          by_cases hend : 0 < x ∨ sh = 0
          · have HGN : Hid (getN xs = some (acc + (x % 128).toNat * 2 ^ sh, xs2)) := HN.out.symm.trans (numP_end hok h8 hend)
            have fin : ∀ w3 y, w3 = w2 → y = ((acc + (x % 128).toNat * 2 ^ sh : Nat) : Int) → NumPost g A lv sv w xs (.returned (.int .u64 y)) w3 := by
              rintro w3 y rfl hy
              exact post_some HF2.out HGN.out hy HT.out.rb HT.out.src HAB2.out
            have FIN := Lib.hid fin; clear fin h8
            by_cases hlt : sh < 63
            · have hltz : (sh : Int) < 63 := by omega
              by_cases hx2 : 0 < x
              · clear hok hsh hlt hend
                go_wp2_with (go_at_call 45; refine (must_true _).mono ?_; rintro e w3 ⟨rfl, rfl⟩)
                go_ret
                exact FIN.out _ _ rfl HOR.out
              · have hs0 : (((sh : Int) + 7) == 7) = true := by rw [beq_iff_eq]; omega
                have hx3 : ¬ (0 : Int) < x := hx2
                clear hok hsh hlt hend hx2
                go_wp2_with (go_at_call 45; refine (must_true _).mono ?_; rintro e w3 ⟨rfl, rfl⟩)
                go_ret
                exact FIN.out _ _ rfl HOR.out
            · have hltz : ¬ (sh : Int) < 63 := by omega
              have hx3 : x < 2 := by omega
              have hx4 : (0 : Int) < x := by omega
              have hsz : (sh : Int) ≤ 63 := by omega
              clear hok hsh hlt hend
              go_wp2_with (go_at_call 45; refine (must_true _).mono ?_; rintro e w3 ⟨rfl, rfl⟩)
              go_ret
              exact FIN.out _ _ rfl HOR.out
          · have HGN : Hid (getN xs = none) := HN.out.symm.trans (numP_zero h8 hend)
            have hx3 : ¬ (0 : Int) < x := by omega
            have hx4 : x < 2 := by omega
            have hs0 : (((sh : Int) + 7) == 7) = false := by rw [beq_eq_false_iff_ne]; omega
            have hsz : (sh : Int) ≤ 63 := by omega
            by_cases hlt : (sh : Int) < 63
            all_goals
              clear hok hsh hend h8
              go_wp2_with fail
              refine (must_true _).mono ?_
              rintro e w3 ⟨rfl, rfl⟩
              go_wp2_with fail
              refine (must_no _ _ (by first | (rw [decide_eq_false_iff_not]; omega) | (rw [Bool.or_eq_false_iff, decide_eq_false_iff_not]; exact ⟨by omega, hs0⟩))).mono ?_
              rintro e w4 ⟨rfl, rfl⟩
              exact ⟨rfl, post_none HF2.out HGN.out⟩
      · have HGN : Hid (getN xs = none) := HN.out.symm.trans (numP_big hok)
        have hltz : ¬ (sh : Int) < 63 := by omega
        have hx3 : ¬ x < 2 := by omega
        clear hok hsh
        go_wp2_with fail
        refine (must_no _ _ (by simp only [Bool.or_eq_false_iff, decide_eq_false_iff_not]; omega)).mono ?_
        rintro e w4 ⟨rfl, rfl⟩
        exact ⟨rfl, post_none HF2.out HGN.out⟩
end Go.Proofs.YtlgonkopojancaaDoor
