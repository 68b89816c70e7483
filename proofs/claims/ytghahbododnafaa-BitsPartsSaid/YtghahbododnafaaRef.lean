/- The walks of fardelref12.Bits: what each call computes, as a list of bits. -/
import Derived.Test.YtghahbododnafaaWr
namespace Go.Proofs.Ytghahbododnafaa
open Go.RowKit
open Bt

theorem info4 : (Try.prog.info? 4).map (fun i => (i.zero, i.size, i.bytes)) = some (some (.bool false), 1, 1) := by kernel_rfl

/-- a number that may be put -/
def Good (num bits : Int) : Prop := 0 ≤ bits ∧ bits ≤ 32 ∧ num < 2 ^ bits.toNat

theorem two_pow_u64 {b : Int} (h0 : 0 ≤ b) (h : b ≤ 32) : IntKind.u64.wrap (2 ^ b.toNat) = 2 ^ b.toNat := by
  have h2 : (2 ^ b.toNat : Nat) ≤ 2 ^ 32 := Nat.pow_le_pow_right (by omega) (by omega)
  have e : ((2 : Int) ^ b.toNat) = ((2 ^ b.toNat : Nat) : Int) := by simp
  rw [IntKind.wrap_u64, e]
  generalize (2 ^ b.toNat : Nat) = n at h2
  omega
theorem div_pow_ne {num b : Int} (h0 : 0 ≤ num) (h : num < 2 ^ b.toNat) : (num / 2 ^ b.toNat != 0) = false := by
  rw [Int.ediv_eq_zero_of_lt h0 h]
  rfl
theorem div_pow_ne' {num b : Int} (h : ¬ num < 2 ^ b.toNat) : (num / 2 ^ b.toNat != 0) = true := by
  rw [bne_iff_ne]
  have hp : (0 : Int) < 2 ^ b.toNat := Int.pow_pos (by omega)
  have : 1 ≤ num / 2 ^ b.toNat := by
    rw [Int.le_ediv_iff_mul_le hp]
    omega
  omega

/-- the reference's bits at block g -/
structure IsB (w : World) (g : Nat) (v : Value) (L : List Bool) (p : Int) : Prop where
  blk : w.heap[g]? = some (.cells #[v, .int .i64 p] 32 (0, 0))
  own : w.ownsRow 0 4 1 v L.length (L.map Value.bool)

set_option maxHeartbeats 400000 in
theorem put_bad (g : Nat) (num bits : Int) (w : World) (h : ¬ Good num bits) :
    Calls Try.prog 10 #[.pointer (some ⟨g, 0, none⟩), .int .u64 num, .int .i64 bits] w fun e w' => e = .returned (.int .i64 1) ∧ w = w' := by
  by_cases h1 : bits < 0
  · go_enter Try.func10, Try.ntmps10
    go_wp2
    go_step3
    go_wp2
    rw [Exit.noGoto_ret]
    go_ret
    exact ⟨rfl, rfl⟩
  · by_cases h2 : 32 < bits
    · go_enter Try.func10, Try.ntmps10
      go_wp2
      go_step3
      go_wp2
      rw [Exit.noGoto_ret]
      go_ret
      exact ⟨rfl, rfl⟩
    · have h3 := div_pow_ne' (num := num) (b := bits) (fun e => h ⟨by omega, by omega, e⟩)
      clear h
      go_enter Try.func10, Try.ntmps10
      go_wp2
      go_step3
      go_wp2
      rw [Exit.noGoto_ret]
      go_ret
      exact ⟨rfl, rfl⟩

set_option maxHeartbeats 400000 in
theorem rput_bad (g : Nat) (num bits : Int) (w : World) (h : ¬ Good num bits) :
    Calls Try.prog 11 #[.pointer (some ⟨g, 0, none⟩), .int .u64 num, .int .i64 bits] w fun e w' => e = .returned (.int .i64 1) ∧ w = w' := by
  by_cases h1 : bits < 0
  · go_enter Try.func11, Try.ntmps11
    go_wp2
    go_ret
    exact ⟨rfl, rfl⟩
  · by_cases h2 : 32 < bits
    · go_enter Try.func11, Try.ntmps11
      go_wp2
      go_ret
      exact ⟨rfl, rfl⟩
    · have h3 : IntKind.u64.wrap (2 ^ bits.toNat) ≤ num := by
        rw [two_pow_u64 (by omega) (by omega)]
        exact Int.not_lt.1 fun e => h ⟨by omega, by omega, e⟩
      clear h
      go_enter Try.func11, Try.ntmps11
      go_wp2
      go_ret
      exact ⟨rfl, rfl⟩

theorem bit_at {num : Int} {k : Nat} (h0 : 0 ≤ num) (h1 : num ≤ 18446744073709551615) : (bits BinOp.and IntKind.u64 (num / 2 ^ k) 1 == 1) = (num.toNat / 2 ^ k % 2 == 1) := by
  obtain ⟨n, rfl⟩ := Int.eq_ofNat_of_zero_le h0
  have hle : n / 2 ^ k ≤ n := Nat.div_le_self _ _
  have e : ((n : Int) / 2 ^ k) = ((n / 2 ^ k : Nat) : Int) := by simp
  rw [e, Int.toNat_natCast]
  clear e
  generalize n / 2 ^ k = m at *
  rw [and_one_u64 _ (by omega) (by omega)]
  rw [Bool.eq_iff_iff, beq_iff_eq, beq_iff_eq]
  omega

theorem rput_round {w w1 : World} {g : Nat} {v v' : Value} {M : List Bool} {p : Int} (h : IsB w g v M p) (hf : Fr (fun j => some j = v.ownBlock) w w1) (b : Bool)
    (hown : w1.ownsRow 0 4 1 v' (M.length + 1) (M.map Value.bool ++ [.bool b])) (loc : v'.ownBlock = v.ownBlock ∨ ∃ j, v'.ownBlock = some j ∧ w.heap.size ≤ j) :
    IsB (w1.setCell ⟨g, 0, none⟩ v') g v' (M ++ [b]) p ∧ WTurn w (w1.setCell ⟨g, 0, none⟩ v') g v v' := by
  obtain ⟨hb, ho⟩ := h
  have hne := own_ne ho hb (by decide)
  have hb1 := hf.blk hb (fun e => hne e.symm)
  have hne1 := own_ne hown hb1 (by decide)
  have fr : Fr (fun j => j = g) w1 (w1.setCell ⟨g, 0, none⟩ v') := (Fr.refl (fun j => j = g) w1).setCell ⟨g, 0, none⟩ _ (fun _ => rfl)
  refine ⟨⟨?_, ?_⟩, ⟨hf.trans fr (fun _ _ x => .inr x) (fun _ _ x => .inl x), loc⟩⟩
  · rw [blk_set hb1 0 _]; simp
  · have := fr.own hown (fun j hj e => hne1 (by rw [← e]; exact hj))
    rw [List.length_append, List.map_append]
    exact this

set_option maxHeartbeats 1000000 in
theorem rput_good (g : Nat) (v0 : Value) (L : List Bool) (p num bits : Int) (w : World) (h0 : 0 ≤ num) (h64 : num ≤ 18446744073709551615) (h : Good num bits) (hw : IsB w g v0 L p) (hL : L.length ≤ 1000000) :
    Calls Try.prog 11 #[.pointer (some ⟨g, 0, none⟩), .int .u64 num, .int .i64 bits] w fun e w' => e = .returned (.int .i64 0) ∧ ∃ v, IsB w' g v (L ++ bitsOf num.toNat bits.toNat) p ∧ WTurn w w' g v0 v := by
  obtain ⟨hb0, hb1, hb2⟩ := h
  have h3 : num < IntKind.u64.wrap (2 ^ bits.toNat) := by rw [two_pow_u64 hb0 hb1]; exact hb2
  have HW := Lib.hid hw; clear hw hb2
  go_enter Try.func11, Try.ntmps11
  go_wp2
  go_loopw [7] (fun i wr => ∃ (k : Nat) (v : Value), (k : Int) ≤ bits ∧ i = .int .i64 k ∧ IsB wr g v (L ++ bitsOf num.toNat k) p ∧ WTurn w wr g v0 v) (fun i _ => (bits - intOf i).toNat)
  case atStart => exact ⟨0, v0, hb0, rfl, by simpa [bitsOf] using HW.out, WTurn.refl _ _ _⟩
  case round =>
    obtain ⟨k, v, hk, rfl, hB, hT⟩ := hrel
    have c0 : wr.cell? ⟨g, 0, none⟩ = some v := by rw [blk_cell hB.blk]; rfl
    obtain ⟨A, c, rfl⟩ := own_shape hB.own
    have f0 := blk_frozen hB.blk 0
    have hne := own_ne hB.own hB.blk (by decide)
    by_cases hkb : (k : Int) < bits
    · have hlen : (L ++ bitsOf num.toNat k).length = L.length + k := by rw [List.length_append, length_bitsOf]
      have HE := Lib.hid (show L ++ bitsOf num.toNat (k + 1) = (L ++ bitsOf num.toNat k) ++ [num.toNat / 2 ^ k % 2 == 1] by rw [bitsOf_snoc, List.append_assoc])
      have HX := Lib.hid (bit_at (k := k) h0 h64)
      generalize L ++ bitsOf num.toNat k = M at *
      have hbt : (M.length + 1) * 1 ≤ 140737488355328 := by omega
      have HB := Lib.hid hB; clear hB
      have HT := Lib.hid hT; clear hT
      have HL := Lib.hid hlen; clear hlen
      obtain ⟨i0, hi, hz0, hz1, hz2⟩ := info_parts info4
      go_wp2_with (at_builtin; refine wpList_append_one rfl (.tmp 30) (.tmp 37) 30 rfl i0 (.bool false) 1 Try.underlying30 hi hz0 hz1 hz2 rfl (.slice A M.length c) M.length (M.map Value.bool) rfl rfl HB.out.own rfl (by decide) hbt ?_; intro v' w2 hown hfr hloc; obtain ⟨A2, k2, rfl⟩ := own_shape hown; have d0 := hfr.cell c0 (fun e => hne e.symm); have e0 := blk_frozen (hfr.blk HB.out.blk (fun e => hne e.symm)) 0)
      go_roundw
      case rel =>
        have key := rput_round HB.out hfr _ hown hloc
        exact ⟨k + 1, _, by omega, by go_num, by rw [HE.out, ← HX.out]; exact key.1, HT.out.trans key.2⟩
      case measure => simp [intOf]; omega
    · obtain rfl : bits = k := by omega
      go_wp2
      go_ret
      exact ⟨rfl, _, hB, hT⟩
end Go.Proofs.Ytghahbododnafaa
