/- The walks of bits.Writer: what each call computes, as a list of bits. -/
import Derived.Test.YtghahbododnafaaRows
import Derived.Test.YtghahbododnafaaPure
import Derived.Test.YtghahbododnafaaLib
namespace Go.Proofs.Ytghahbododnafaa
open Go.RowKit
open Bt

theorem info5 : (Try.prog.info? 5).map (fun i => (i.zero, i.size, i.bytes)) = some (some (.int .u8 0), 1, 1) := by kernel_rfl

/-- the three cells of a Writer at block g, k whole bytes of the bits M flushed -/
structure WCells (w : World) (g : Nat) (v : Value) (M : List Bool) (k : Nat) : Prop where
  blk : w.heap[g]? = some (.cells #[v, .int .u64 (val (M.drop (8 * k))), .int .i64 ((M.length - 8 * k : Nat))] 28 (0, 0))
  own : w.ownsRow 0 5 1 v k ((octs M k).map (Value.int .u8))
  le : 8 * k ≤ M.length

/-- a Writer at block g that has written the bits L -/
def IsW (w : World) (g : Nat) (v : Value) (L : List Bool) : Prop := WCells w g v L (L.length / 8)

/-- what a call on the Writer at g (its bytes' slice v0) leaves of the world, and of where its bytes lie -/
structure WTurn (w0 w : World) (g : Nat) (v0 v : Value) : Prop where
  fr : Fr (fun j => j = g ∨ some j = v0.ownBlock) w0 w
  row : v.ownBlock = v0.ownBlock ∨ ∃ j, v.ownBlock = some j ∧ w0.heap.size ≤ j

theorem WCells.drew {w : World} {g : Nat} {v : Value} {M : List Bool} {k : Nat} (h : WCells w g v M k) : WCells w.drew g v M k := ⟨h.blk, h.own, h.le⟩
theorem WTurn.drew {w0 w : World} {g : Nat} {v0 v : Value} (h : WTurn w0 w g v0 v) : WTurn w0 w.drew g v0 v := ⟨h.fr.drew, h.row⟩
theorem WTurn.refl (w : World) (g : Nat) (v : Value) : WTurn w w g v v := ⟨Fr.refl _ _, .inl rfl⟩
theorem WTurn.trans {w0 w1 w2 : World} {g : Nat} {v0 v1 v2 : Value} (h : WTurn w0 w1 g v0 v1) (k : WTurn w1 w2 g v1 v2) : WTurn w0 w2 g v0 v2 := by
  refine ⟨h.fr.trans k.fr (fun _ _ x => x) (fun j hj x => ?_), ?_⟩
  · rcases x with x | x
    · exact .inl x
    · rcases h.row with e | ⟨b, e, hb⟩
      · exact .inr (x.trans e)
      · rw [e] at x
        injection x with x
        omega
  · rcases k.row with e | ⟨b, e, hb⟩
    · rcases h.row with e' | ⟨b, e', hb⟩
      · exact .inl (e.trans e')
      · exact .inr ⟨b, e.trans e', hb⟩
    · exact .inr ⟨b, e, Nat.le_trans h.fr.size hb⟩

theorem or_shift (R : List Bool) (num : Int) (b r : Nat) (hr : R.length = r) (hb : r + b ≤ 40) (h0 : 0 ≤ num) (h1 : num < 2 ^ b) :
    bits .or .u64 (val R : Int) (IntKind.u64.wrap (num * 2 ^ r)) = (val (R ++ bitsOf num.toNat b) : Int) := by
  subst hr
  obtain ⟨n, rfl⟩ := Int.eq_ofNat_of_zero_le h0
  have hn : n < 2 ^ b := by
    have : ((n : Nat) : Int) < ((2 ^ b : Nat) : Int) := by simpa using h1
    omega
  have hm : n * 2 ^ R.length < 18446744073709551616 := by
    have h1 : n * 2 ^ R.length ≤ 2 ^ b * 2 ^ R.length := Nat.mul_le_mul_right _ (by omega)
    have h2 : 2 ^ b * 2 ^ R.length = 2 ^ (R.length + b) := by rw [← Nat.pow_add, Nat.add_comm]
    have h3 : 2 ^ (R.length + b) ≤ 2 ^ 40 := Nat.pow_le_pow_right (by omega) hb
    omega
  have hr2 : 2 ^ R.length ≤ 2 ^ 40 := Nat.pow_le_pow_right (by omega) (by omega)
  have hw : IntKind.u64.wrap ((n : Int) * 2 ^ R.length) = ((n * 2 ^ R.length : Nat) : Int) := by
    rw [IntKind.wrap_u64]
    have e : ((n : Int) * 2 ^ R.length) = ((n * 2 ^ R.length : Nat) : Int) := by simp
    rw [e]
    omega
  have hv := val_lt R
  have e1 : ((n : Int).toNat) = n := by simp
  rw [hw, u64_or_nat _ _ (by omega) hm, e1, val_append, val_bitsOf, Nat.mod_eq_of_lt hn, Nat.or_comm, Nat.mul_comm n, ← Nat.two_pow_add_eq_or_of_lt hv]
  congr 1
  omega

theorem flush_byte (M : List Bool) (k : Nat) : IntKind.u8.wrap (val (M.drop (8 * k)) : Int) = (byteAt M k : Int) := by
  rw [IntKind.wrap_u8]
  unfold byteAt
  rw [val_take]
  omega
theorem flush_rest (M : List Bool) (k : Nat) : (val (M.drop (8 * k)) : Int) / 256 = (val (M.drop (8 * (k + 1))) : Int) := by
  have e : M.drop (8 * (k + 1)) = (M.drop (8 * k)).drop 8 := by rw [List.drop_drop]; rfl
  rw [e, val_drop (M.drop (8 * k)) 8]
  omega

theorem put_start {w : World} {g : Nat} {v0 : Value} {L M : List Bool} (h : IsW w g v0 L) (X Y : Int) (hM : ∃ T, M = L ++ T) (hX : X = val (M.drop (8 * (L.length / 8)))) (hY : Y = (M.length - 8 * (L.length / 8) : Nat)) :
    WCells ((w.setCell ⟨g, 1, none⟩ (.int .u64 X)).setCell ⟨g, 2, none⟩ (.int .i64 Y)) g v0 M (L.length / 8) ∧
    WTurn w ((w.setCell ⟨g, 1, none⟩ (.int .u64 X)).setCell ⟨g, 2, none⟩ (.int .i64 Y)) g v0 v0 := by
  obtain ⟨hb, ho, hle⟩ := h
  obtain ⟨T, rfl⟩ := hM
  have hne := own_ne ho hb (by decide)
  have fr : Fr (fun j => j = g) w ((w.setCell ⟨g, 1, none⟩ (.int .u64 X)).setCell ⟨g, 2, none⟩ (.int .i64 Y)) :=
    ((Fr.refl (fun j => j = g) w).setCell ⟨g, 1, none⟩ _ (fun _ => rfl)).setCell ⟨g, 2, none⟩ _ (fun _ => rfl)
  refine ⟨⟨?_, ?_, ?_⟩, ⟨fr.mono (fun _ _ x => .inl x), .inl rfl⟩⟩
  · rw [blk_set (blk_set hb 1 _) 2 _, hX, hY]
    simp
  · have := fr.own ho (fun j hj e => hne (by rw [← e]; exact hj))
    rwa [octs_append _ _ _ hle]
  · rw [List.length_append]; omega

theorem put_round {w w1 : World} {g : Nat} {v v' : Value} {M : List Bool} {k : Nat} (h : WCells w g v M k) (hk : 8 * k + 8 ≤ M.length) (hf : Fr (fun j => some j = v.ownBlock) w w1) (B X Y : Int)
    (hown : w1.ownsRow 0 5 1 v' (k + 1) ((octs M k).map (Value.int .u8) ++ [.int .u8 B])) (loc : v'.ownBlock = v.ownBlock ∨ ∃ j, v'.ownBlock = some j ∧ w.heap.size ≤ j)
    (hB : B = byteAt M k) (hX : X = val (M.drop (8 * (k + 1)))) (hY : Y = (M.length - 8 * (k + 1) : Nat)) :
    WCells (((w1.setCell ⟨g, 0, none⟩ v').setCell ⟨g, 1, none⟩ (.int .u64 X)).setCell ⟨g, 2, none⟩ (.int .i64 Y)) g v' M (k + 1) ∧
    WTurn w (((w1.setCell ⟨g, 0, none⟩ v').setCell ⟨g, 1, none⟩ (.int .u64 X)).setCell ⟨g, 2, none⟩ (.int .i64 Y)) g v v' := by
  obtain ⟨hb, ho, hle⟩ := h
  have hne := own_ne ho hb (by decide)
  have hb1 := hf.blk hb (fun e => hne e.symm)
  have hne1 := own_ne hown hb1 (by decide)
  have fr : Fr (fun j => j = g) w1 (((w1.setCell ⟨g, 0, none⟩ v').setCell ⟨g, 1, none⟩ (.int .u64 X)).setCell ⟨g, 2, none⟩ (.int .i64 Y)) :=
    (((Fr.refl (fun j => j = g) w1).setCell ⟨g, 0, none⟩ _ (fun _ => rfl)).setCell ⟨g, 1, none⟩ _ (fun _ => rfl)).setCell ⟨g, 2, none⟩ _ (fun _ => rfl)
  refine ⟨⟨?_, ?_, by omega⟩, ⟨hf.trans fr (fun _ _ x => .inr x) (fun _ _ x => .inl x), loc⟩⟩
  · rw [blk_set (blk_set (blk_set hb1 0 _) 1 _) 2 _, hX, hY]
    simp
  · have := fr.own hown (fun j hj e => hne1 (by rw [← e]; exact hj))
    rw [octs_succ, List.map_append, ← hB]
    exact this

def PutJ (g : Nat) (num bits : Int) (M : List Bool) (w0 : World) (v0 : Value) (a : Act) (w : World) : Prop :=
  (∃ u : Nat → Value, a = { tmps := #[.pointer (some ⟨g, 0, none⟩), .int .u64 num, .int .i64 bits, undef, undef, undef, .int .i64 0, u 7, u 8, u 9, u 10, u 11, u 12, u 13, u 14, u 15, u 16, u 17, u 18, u 19, u 20, u 21, u 22, u 23, u 24, u 25, u 26, u 27, u 28, u 29, u 30, u 31, u 32, u 33, u 34, u 35, u 36, u 37, u 38, u 39, u 40, u 41, u 42, u 43, u 44, u 45, u 46, u 47, u 48, u 49, u 50, u 51, u 52, u 53, u 54, u 55, u 56, u 57, u 58, u 59, u 60, u 61, u 62, u 63, u 64, u 65, u 66, u 67, u 68, u 69, u 70, u 71, u 72, u 73, u 74, u 75, u 76], defers := [] }) ∧
  ∃ v k, WCells w g v M k ∧ WTurn w0 w g v0 v

def PutMu (g : Nat) (_ : Act) (w : World) : Nat := match w.cell? ⟨g, 2, none⟩ with | some (.int _ n) => n.toNat | _ => 0

theorem putMu_at {w : World} {g : Nat} {v : Value} {M : List Bool} {k : Nat} (h : WCells w g v M k) (a : Act) : PutMu g a w = M.length - 8 * k := by
  unfold PutMu
  rw [blk_cell h.blk]
  simp

theorem putJ_act {g : Nat} {num bits : Int} {M : List Bool} {w0 : World} {v0 : Value} {w : World} {u7 u8 u9 u10 u11 u12 u13 u14 u15 u16 u17 u18 u19 u20 u21 u22 u23 u24 u25 u26 u27 u28 u29 u30 u31 u32 u33 u34 u35 u36 u37 u38 u39 u40 u41 u42 u43 u44 u45 u46 u47 u48 u49 u50 u51 u52 u53 u54 u55 u56 u57 u58 u59 u60 u61 u62 u63 u64 u65 u66 u67 u68 u69 u70 u71 u72 u73 u74 u75 u76 : Value} {v : Value} {k : Nat} (h : WCells w g v M k) (t : WTurn w0 w g v0 v) :
    PutJ g num bits M w0 v0 { tmps := #[.pointer (some ⟨g, 0, none⟩), .int .u64 num, .int .i64 bits, undef, undef, undef, .int .i64 0, u7, u8, u9, u10, u11, u12, u13, u14, u15, u16, u17, u18, u19, u20, u21, u22, u23, u24, u25, u26, u27, u28, u29, u30, u31, u32, u33, u34, u35, u36, u37, u38, u39, u40, u41, u42, u43, u44, u45, u46, u47, u48, u49, u50, u51, u52, u53, u54, u55, u56, u57, u58, u59, u60, u61, u62, u63, u64, u65, u66, u67, u68, u69, u70, u71, u72, u73, u74, u75, u76], defers := [] } w :=
  ⟨⟨fun i => #[undef, undef, undef, undef, undef, undef, undef, u7, u8, u9, u10, u11, u12, u13, u14, u15, u16, u17, u18, u19, u20, u21, u22, u23, u24, u25, u26, u27, u28, u29, u30, u31, u32, u33, u34, u35, u36, u37, u38, u39, u40, u41, u42, u43, u44, u45, u46, u47, u48, u49, u50, u51, u52, u53, u54, u55, u56, u57, u58, u59, u60, u61, u62, u63, u64, u65, u66, u67, u68, u69, u70, u71, u72, u73, u74, u75, u76].getD i undef, rfl⟩, v, k, h, t⟩

set_option maxHeartbeats 1000000 in
theorem put_good (g : Nat) (v0 : Value) (L : List Bool) (num bits : Int) (w : World) (h : 0 ≤ bits) (h2 : bits ≤ 32) (hs : (num / 2 ^ bits.toNat != 0) = false) (h0 : 0 ≤ num) (hnum : num < 2 ^ bits.toNat) (hw : IsW w g v0 L) (hL : L.length ≤ 1000000) :
    Calls Try.prog 10 #[.pointer (some ⟨g, 0, none⟩), .int .u64 num, .int .i64 bits] w fun e w' => e = .returned (.int .i64 0) ∧ ∃ v, IsW w' g v (L ++ bitsOf num.toNat bits.toNat) ∧ WTurn w w' g v0 v := by
  have H2 := hw
  obtain ⟨hb, ho, hle⟩ := hw
  have c1 : w.cell? ⟨g, 1, none⟩ = some (.int .u64 (val (L.drop (8 * (L.length / 8))))) := by rw [blk_cell hb]; rfl
  have c2 : w.cell? ⟨g, 2, none⟩ = some (.int .i64 ((L.length - 8 * (L.length / 8) : Nat))) := by rw [blk_cell hb]; rfl
  have f1 := blk_frozen hb 1
  have f2 := blk_frozen hb 2
  have HN := Lib.hid hnum
  clear hb ho hnum
  go_enter Try.func10, Try.ntmps10
  go_wp2
  refine wp_scope_loop 0 (PutJ g num bits (L ++ bitsOf num.toNat bits.toNat) w v0) (PutMu g) rfl ?pass ?first
  case first =>
    intro hp
    have HP := Lib.hid hp; clear hp
    go_wp2
    go_region
    go_wp2
    go_step3
    simp only [Exit.then]
    rename_i hK
    refine hK _ _ (HP.out _ _ ?_)
    have e1 := or_shift (L.drop (8 * (L.length / 8))) num bits.toNat (L.length - 8 * (L.length / 8)) (by rw [List.length_drop]) (by omega) h0 HN.out
    have key := put_start (M := L ++ bitsOf num.toNat bits.toNat) H2 _ ((L.length - 8 * (L.length / 8) : Nat) + bits) ⟨_, rfl⟩ (e1.trans (by rw [List.drop_append_of_le_length hle])) (by rw [List.length_append, length_bitsOf]; omega)
    exact putJ_act key.1.drew key.2.drew
  case pass =>
    clear c1 c2 f1 f2 hle H2
    rintro a w1 ⟨⟨u, rfl⟩, v, k, hc, ht⟩
    have hM : (L ++ bitsOf num.toNat bits.toNat).length ≤ 1000032 := by rw [List.length_append, length_bitsOf]; omega
    obtain ⟨M, hM0⟩ : ∃ M, M = L ++ bitsOf num.toNat bits.toNat := ⟨_, rfl⟩
    rw [← hM0] at hc hM
    have HM0 := Lib.hid hM0; clear hM0
    have hmu' : ∀ a, PutMu g a w1 = M.length - 8 * k := putMu_at hc
    have HM := Lib.hid hmu'
    have hb := hc.blk
    obtain ⟨A, c, rfl⟩ := own_shape hc.own
    have c0 : w1.cell? ⟨g, 0, none⟩ = some (.slice A k c) := by rw [blk_cell hb]; rfl
    have c1 : w1.cell? ⟨g, 1, none⟩ = some (.int .u64 (val (M.drop (8 * k)))) := by rw [blk_cell hb]; rfl
    have c2 : w1.cell? ⟨g, 2, none⟩ = some (.int .i64 ((M.length - 8 * k : Nat))) := by rw [blk_cell hb]; rfl
    have hlt := blk_lt hb
    have hle := hc.le
    clear hb hmu'
    by_cases h8 : (8 : Int) ≤ (M.length - 8 * k : Nat)
    · have hne := own_ne hc.own hc.blk (by decide)
      have HC := Lib.hid hc; clear hc
      have HT := Lib.hid ht; clear ht
      have hM8 := Lib.hid (show 8 * k + 8 ≤ M.length by omega)
      have hbt : (k + 1) * 1 ≤ 140737488355328 := by omega
      obtain ⟨i0, hi, hz0, hz1, hz2⟩ := info_parts info5
      go_wp2
      go_region_law ((refine step_append_one rfl (.tmp 53) (.tmp 59) 25 rfl i0 (.int .u8 0) 1 Try.underlying25 hi hz0 hz1 hz2 rfl (.slice A k c) k ((octs M k).map (Value.int .u8)) rfl rfl HC.out.own rfl (by decide) hbt ?_; intro v' w2 hown hfr hloc; obtain ⟨A2, k2, rfl⟩ := own_shape hown; have d0 := hfr.cell c0 (fun e => hne e.symm); have d1 := hfr.cell c1 (fun e => hne e.symm); have d2 := hfr.cell c2 (fun e => hne e.symm); have f0 := blk_frozen (hfr.blk HC.out.blk (fun e => hne e.symm)) 0; have f1 := blk_frozen (hfr.blk HC.out.blk (fun e => hne e.symm)) 1; have f2 := blk_frozen (hfr.blk HC.out.blk (fun e => hne e.symm)) 2))
      go_wp2
      all_goals
        go_step3
        have key := put_round HC.out hM8.out hfr _ _ _ hown hloc (flush_byte M k) (flush_rest M k) (show ((M.length - 8 * k : Nat) : Int) - 8 = (M.length - 8 * (k + 1) : Nat) by omega)
        have hmu := HM.out
        have E := HM0.out
        subst E
        exact ⟨rfl, putJ_act key.1 (HT.out.trans key.2), by rw [putMu_at key.1, hmu]; omega⟩
    · have hk : k = M.length / 8 := by omega
      subst hk
      have HC := Lib.hid hc; clear hc
      have HT := Lib.hid ht; clear ht
      go_wp2
      simp only [Exit.jump]
      go_ret
      have E := HM0.out
      subst E
      exact ⟨rfl, _, HC.out, HT.out⟩
end Go.Proofs.Ytghahbododnafaa
