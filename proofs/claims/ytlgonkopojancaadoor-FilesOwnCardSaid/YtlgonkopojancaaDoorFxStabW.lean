/- The walk of SortStableFunc: what it leaves of n files. -/
import Derived.Test.YtlgonkopojancaaDoorFxStabP
import Derived.Test.YtlgonkopojancaaDoorFxOne
namespace Go.Proofs.YtlgonkopojancaaDoor
open Go.RowKit

def Mid (g n cap : Nat) (V : List FV) (w0 wr : World) (U : List FV) : Prop := BR g n cap wr U ∧ FilEq V U ∧ FrG g w0 wr
theorem stable_len {X Z : List FV} (h : StableOf FV.key X Z) : Z.length = X.length := by
  haveI : DecidableEq FV := fun _ _ => Classical.propDecidable _
  exact (filters_perm h.2).length_eq

theorem ins_blk {g n cap T s a b : Nat} {U V : List FV} {w0 wr : World} (hM : Mid g n cap V w0 wr U) (h63 : n ≤ 1000000) (ha : a = T * s) (hab : a ≤ b) (hbn : b ≤ n) (hb : b = (T + 1) * s ∨ (b = n ∧ b ≤ (T + 1) * s)) (hlo : Lo s T U) :
    Calls Tryd.prog 57 #[.slice (some ⟨g, 0, none⟩) n cap, .int .i64 a, .int .i64 b, cmpV] wr fun e w' => e = .returned (.tuple #[]) ∧ ∃ U', Mid g n cap V w0 w' U' ∧ Lo s (T + 1) U' := by
  obtain ⟨h1, h2, h3⟩ := hM
  have hl := h1.len
  obtain ⟨e1, e2, e3⟩ := three (U := U) hab (by omega)
  refine (ins_any g n cap a b (U.take a) (seg U a b) (U.drop b) wr (e1 ▸ h1) h63 e2 e3).mono ?_
  rintro e w' ⟨rfl, Z, hz, hzl, hb', hf⟩
  refine ⟨rfl, _, ⟨hb', h2.step e1 hz, h3.trans' hf⟩, ?_⟩
  refine lo_put (X := seg U a b) (by rw [← e1]; exact hlo) (by omega) hz.1 ?_
  rcases hb with hb | ⟨hb, hb2⟩
  · left; omega
  · right; exact ⟨by rw [List.drop_of_length_le (by omega)], by omega⟩
theorem dbl (T s : Nat) : T * (2 * s) = 2 * T * s ∧ (T + 1) * (2 * s) = (2 * T + 1 + 1) * s ∧ (2 * T + 1) * s = 2 * T * s + s ∧ (2 * T + 1 + 1) * s = 2 * T * s + 2 * s := by
  refine ⟨by rw [Nat.mul_comm 2 s, ← Nat.mul_assoc, Nat.mul_comm (T * s) 2, Nat.mul_assoc], ?_, by rw [Nat.add_mul, Nat.one_mul], by rw [Nat.add_mul, Nat.add_mul]; omega⟩
  rw [Nat.add_mul, Nat.one_mul, Nat.mul_comm 2 s, ← Nat.mul_assoc, Nat.mul_comm (T * s) 2, ← Nat.mul_assoc, Nat.add_mul, Nat.add_mul]
  omega
theorem sym_blk {g n cap T s a m b : Nat} {U V : List FV} {w0 wr : World} (hM : Mid g n cap V w0 wr U) (h63 : n ≤ 1000000) (hs : 0 < s) (ha : a = T * (2 * s)) (hm : m = a + s) (hmb : m < b) (hbn : b ≤ n) (hb : b = (T + 1) * (2 * s) ∨ (b = n ∧ b ≤ (T + 1) * (2 * s))) (hlo : Lo (2 * s) T U) (hhi : Hi s (2 * T) U) :
    Calls Tryd.prog 58 #[.slice (some ⟨g, 0, none⟩) n cap, .int .i64 a, .int .i64 m, .int .i64 b, cmpV] wr fun e w' => e = .returned (.tuple #[]) ∧ ∃ U', Mid g n cap V w0 w' U' ∧ Lo (2 * s) (T + 1) U' ∧ Hi s (2 * (T + 1)) U' := by
  obtain ⟨h1, h2, h3⟩ := hM
  have hl := h1.len
  obtain ⟨d1, d2, d3, d4⟩ := dbl T s
  obtain ⟨e1, e2, e3⟩ := three (U := U) (i := a) (j := b) (by omega) (by omega)
  have e4 : seg U a b = seg U a m ++ seg U m b := seg_split (by omega) (by omega)
  have l1 : (seg U a m).length = s := by rw [seg_len (by omega)]; omega
  have l2 : (seg U m b).length = b - m := seg_len (by omega)
  have hX : Srt FV.key (seg U a m) := by
    have := hhi (2 * T) (Nat.le_refl _)
    rw [← d1, ← ha, d3, ← d1, ← ha, ← hm] at this
    exact this
  have hY : Srt FV.key (seg U m b) := by
    have := hhi (2 * T + 1) (by omega)
    rw [d3, ← d1, ← ha, ← hm] at this
    rcases hb with hb | ⟨hb, hb2⟩
    · rw [← d2, ← hb] at this; exact this
    · rw [seg_cut (j' := b) (by rw [← d2]; omega) (by omega)] at this; exact this
  have hU : U = U.take a ++ seg U a m ++ seg U m b ++ U.drop b := by rw [List.append_assoc (U.take a), ← e4]; exact e1
  refine (sym_any g n cap h63 _ a m b (U.take a) (seg U a m) (seg U m b) (U.drop b) wr (hU ▸ h1) (by omega) (by omega) e2 (by omega) (by omega) hX hY (Nat.lt_succ_self _)).mono ?_
  rintro e w' ⟨rfl, Z, hz, hb', hf⟩
  have hzl : Z.length = (seg U a m ++ seg U m b).length := stable_len hz
  have hzl2 : Z.length = b - a := by rw [hzl, List.length_append]; omega
  refine ⟨rfl, _, ⟨hb', h2.step (X := seg U a m ++ seg U m b) (by rw [← e4]; exact e1) hz, h3.trans' hf⟩, ?_, ?_⟩
  · refine lo_put (X := seg U a b) (by rw [← e1]; exact hlo) (by omega) hz.1 ?_
    rcases hb with hb | ⟨hb, hb2⟩
    · left; omega
    · right; exact ⟨by rw [List.drop_of_length_le (by omega)], by omega⟩
  · rcases hb with hb | ⟨hb, hb2⟩
    · refine hi_put (X := seg U a b) ?_ (by omega) (by rw [show 2 * (T + 1) = 2 * T + 1 + 1 by omega, ← d2]; omega)
      rw [← e1]
      exact fun t ht => hhi t (by omega)
    · refine hi_out ?_
      rw [show 2 * (T + 1) = 2 * T + 1 + 1 by omega, ← d2]
      have := hb'.len
      omega
theorem tail_blk {T s : Nat} {U : List FV} (hlo : Lo (2 * s) T U) (hhi : Hi s (2 * T) U) (h : U.length ≤ T * (2 * s) + s) : Hi (2 * s) 0 U := by
  obtain ⟨d1, d2, d3, d4⟩ := dbl T s
  refine lo_hi (p := T + 1) (fun t ht => ?_) (hi_out (by omega))
  by_cases hp : t < T
  · exact hlo t hp
  · have : t = T := by omega
    subst this
    have := hhi (2 * t) (Nat.le_refl _)
    rw [← d1, d3] at this
    rw [seg_cut (j' := 2 * t * s + s) (by omega) (by omega)]
    exact this

def StI (g n cap : Nat) (V : List FV) (w0 wr : World) (a b : Nat) : Prop := ∃ T U, a = T * 20 ∧ b = (T + 1) * 20 ∧ a ≤ n ∧ Mid g n cap V w0 wr U ∧ Lo 20 T U
def StO (g n cap : Nat) (V : List FV) (w0 wr : World) (s : Nat) : Prop := ∃ U, 0 < s ∧ Mid g n cap V w0 wr U ∧ Hi s 0 U
def StM (g n cap : Nat) (V : List FV) (w0 wr : World) (s a b : Nat) : Prop := ∃ T U, a = T * (2 * s) ∧ b = (T + 1) * (2 * s) ∧ a ≤ n ∧ Mid g n cap V w0 wr U ∧ Lo (2 * s) T U ∧ Hi s (2 * T) U
set_option maxRecDepth 100000 in
set_option maxHeartbeats 4000000 in
theorem stab_any (g n cap : Nat) (V : List FV) (w : World) (h : BR g n cap w V) (h63 : n ≤ 1000000) (h0 : 0 < n) :
    Calls Tryd.prog 51 #[.slice (some ⟨g, 0, none⟩) n cap, .int .i64 n, cmpV] w fun e w' => e = .returned (.tuple #[]) ∧ ∃ U, StableOf FV.key V U ∧ BR g n cap w' U ∧ FrG g w w' := by
  have HB := Lib.hid h; have HN := Lib.hid (And.intro h63 h0)
  have i1 : (n : Int) ≤ 1000000 := by omega
  clear h h63 h0
  unfold cmpV
  go_enter Tryd.func51, Tryd.ntmps51
  go_wp2_with fail
  go_loopw [7, 8] (fun v7 v8 wr => ∃ a b : Nat, v7 = .int .i64 a ∧ v8 = .int .i64 b ∧ Hid (StI g n cap V w wr a b)) (fun _ v8 _ => n + 20 - (intOf v8).toNat)
  case atStart => exact ⟨0, 20, rfl, rfl, 0, V, rfl, rfl, Nat.zero_le _, ⟨HB.out, fun _ => rfl, Fr.refl _ _⟩, fun t ht => absurd ht (Nat.not_lt_zero _)⟩
  case round =>
    obtain ⟨a, b, rfl, rfl, HI⟩ := hrel
    obtain ⟨T, U, ha, hb, han, hM, hlo⟩ := HI.out
    have HA := Lib.hid ha; have HBB := Lib.hid hb; have HAN := Lib.hid han; have HM := Lib.hid hM; have HLO := Lib.hid hlo
    have q1 : (a : Int) ≤ n := by omega
    have q2 : (b : Int) ≤ 1000020 := by omega
    clear HI ha hb han hM hlo
    by_cases hbn : (b : Int) ≤ n
    · have hbn2 : decide ((b : Int) ≤ n) = true := decide_eq_true hbn
      go_wp2_with fail
      refine (ins_blk HM.out HN.out.1 HA.out (by have := HA.out; have := HBB.out; omega) (by omega) (.inl HBB.out) HLO.out).mono ?_
      rintro e w1 ⟨rfl, U', hM', hlo'⟩
      have HI1 : Hid (StI g n cap V w w1 b (b + 20)) := (⟨T + 1, U', HBB.out, by have := HBB.out; omega, by omega, hM', hlo'⟩ : StI g n cap V w w1 b (b + 20))
      clear hM' hlo'
      go_wp2_with fail
      go_roundw
      case rel => exact ⟨b, b + 20, rfl, by go_num, HI1.out⟩
      case measure => simp [intOf]; omega
    · have hbn2 : decide ((b : Int) ≤ n) = false := decide_eq_false hbn
      go_wp2_with fail
      refine (ins_blk (b := n) HM.out HN.out.1 HA.out HAN.out (Nat.le_refl _) (.inr ⟨rfl, by have := HBB.out; omega⟩) HLO.out).mono ?_
      rintro e w1 ⟨rfl, U', hM', hlo'⟩
      have HO : Hid (StO g n cap V w w1 20) := (⟨U', by decide, hM', lo_hi hlo' (hi_out (by have := hM'.1.len; have := HBB.out; omega))⟩ : StO g n cap V w w1 20)
      clear hM' hlo'
      clear HM HLO HA HBB HAN q1 q2 hbn hbn2
      go_wp2_with fail
      go_loopw [6, 7, 8, 9] (fun v6 _ _ _ wr => ∃ s : Nat, v6 = .int .i64 s ∧ Hid (s ≤ 2000000) ∧ Hid (StO g n cap V w wr s)) (fun v6 _ _ _ _ => n - (intOf v6).toNat)
      case atStart => exact ⟨20, rfl, (by decide : 20 ≤ 2000000), HO.out⟩
      case round =>
        obtain ⟨s, rfl, HS, HO2⟩ := hrel
        clear HO
        have q1 : (s : Int) ≤ 2000000 := by have := HS.out; omega
        obtain ⟨U0, hs0, hM0, hhi0⟩ := HO2.out
        have HS0 := Lib.hid hs0; have HM0 := Lib.hid hM0; have HHI0 := Lib.hid hhi0
        clear HO2 hs0 hM0 hhi0
        by_cases hsn : (s : Int) < n
        · have HM1 : Hid (StM g n cap V w wr s 0 (2 * s)) := (⟨0, U0, by omega, by omega, Nat.zero_le _, HM0.out, fun t ht => absurd ht (Nat.not_lt_zero _), HHI0.out⟩ : StM g n cap V w wr s 0 (2 * s))
          go_wp2_with fail
          go_loopw [7, 8] (fun v7 v8 wr => ∃ a b : Nat, v7 = .int .i64 a ∧ v8 = .int .i64 b ∧ Hid (StM g n cap V w wr s a b)) (fun _ v8 _ => n + 2 * s - (intOf v8).toNat)
          case atStart => exact ⟨0, 2 * s, rfl, by go_num, HM1.out⟩
          case round =>
            obtain ⟨a, b, rfl, rfl, HI⟩ := hrel
            clear HM1 HM0 HHI0
            obtain ⟨T, U, ha, hb, han, hM, hlo, hhi⟩ := HI.out
            have hab : b = a + 2 * s := by rw [ha, hb, Nat.add_mul, Nat.one_mul]
            have q2 : (a : Int) ≤ n := by omega
            have q4 : (s : Int) ≤ 1000000 := by omega
            have q3 : (b : Int) ≤ 3000000 := by omega
            have q5 : (a : Int) + s ≤ 2000000 := by omega
            have HA := Lib.hid ha; have HBB := Lib.hid hb; have HM := Lib.hid hM; have HLO := Lib.hid hlo; have HHI := Lib.hid hhi; have HAB := Lib.hid hab
            clear HI ha hb han hM hlo hhi hab
            by_cases hbn : (b : Int) ≤ n
            · have hbn2 : decide ((b : Int) ≤ n) = true := decide_eq_true hbn
              have hm1 : Hid ((a : Int) + s = (a + s : Nat)) := (by omega : (a : Int) + s = (a + s : Nat))
              go_wp2_with fail
              rw [hm1.out]
              refine (sym_blk HM.out HN.out.1 HS0.out HA.out rfl (by have := HAB.out; have := HS0.out; omega) (by omega) (.inl HBB.out) HLO.out HHI.out).mono ?_
              rintro e w1 ⟨rfl, U', hM', hlo', hhi'⟩
              have HI1 : Hid (StM g n cap V w w1 s b (b + 2 * s)) := (⟨T + 1, U', HBB.out, by rw [HBB.out, Nat.add_mul (T + 1), Nat.one_mul], by omega, hM', hlo', hhi'⟩ : StM g n cap V w w1 s b (b + 2 * s))
              clear hM' hlo' hhi'
              go_wp2_with fail
              go_roundw
              case rel => exact ⟨b, b + 2 * s, rfl, by go_num, HI1.out⟩
              case measure => have := HS0.out; simp [intOf]; omega
            · have hbn2 : decide ((b : Int) ≤ n) = false := decide_eq_false hbn
              by_cases hmn : (a : Int) + s < n
              · have hm1 : Hid ((a : Int) + s = (a + s : Nat)) := (by omega : (a : Int) + s = (a + s : Nat))
                go_wp2_with fail
                rw [hm1.out]
                refine (sym_blk (b := n) HM.out HN.out.1 HS0.out HA.out rfl (by omega) (Nat.le_refl _) (.inr ⟨rfl, by have := HBB.out; omega⟩) HLO.out HHI.out).mono ?_
                rintro e w1 ⟨rfl, U', hM', hlo', hhi'⟩
                have HO1 : Hid (StO g n cap V w w1 (s * 2)) := (⟨U', by have := HS0.out; omega, hM', by rw [Nat.mul_comm]; exact lo_hi hlo' (hi_out (by have := hM'.1.len; have := HBB.out; omega))⟩ : StO g n cap V w w1 (s * 2))
                clear hM' hlo' hhi'
                go_wp2_with fail
                go_roundw
                case rel => exact ⟨s * 2, by go_num, (by omega : s * 2 ≤ 2000000), HO1.out⟩
                case measure => have := HS0.out; simp [intOf]; omega
              · have HO1 : Hid (StO g n cap V w wr (s * 2)) := (⟨U, by have := HS0.out; omega, HM.out, by rw [Nat.mul_comm]; exact tail_blk HLO.out HHI.out (by have := HM.out.1.len; have := HA.out; omega)⟩ : StO g n cap V w wr (s * 2))
                go_wp2_with fail
                go_roundw
                case rel => exact ⟨s * 2, by go_num, (by omega : s * 2 ≤ 2000000), HO1.out⟩
                case measure => have := HS0.out; simp [intOf]; omega
        · go_wp2_with fail
          go_end0
          have hl := HM0.out.1.len
          exact ⟨rfl, U0, ⟨hi_whole HHI0.out (by omega), HM0.out.2.1⟩, HM0.out.1, HM0.out.2.2⟩

theorem ins_zero (v : Value) (fv : Value) (w : World) : Calls Tryd.prog 57 #[v, .int .i64 0, .int .i64 0, fv] w fun e w' => e = .returned (.tuple #[]) ∧ w' = w := by
  go_enter Tryd.func57, Tryd.ntmps57
  go_wp2
  refine wp_loop_rounds 1 ?_
  rw [rounds_succ]
  go_wp2
  go_end0
  exact ⟨rfl, rfl⟩
theorem stable_zero (v : Value) (fv : Value) (w : World) : Calls Tryd.prog 51 #[v, .int .i64 0, fv] w fun e w' => e = .returned (.tuple #[]) ∧ w' = w := by
  go_enter Tryd.func51, Tryd.ntmps51
  go_wp2
  refine wp_loop_rounds 1 ?_
  rw [rounds_succ]
  go_wp2_with (go_at_call 57; refine (ins_zero _ _ _).mono ?_; rintro e w1 ⟨rfl, rfl⟩)
  refine wp_loop_rounds 1 ?_
  rw [rounds_succ]
  go_wp2
  go_end0
  exact ⟨rfl, rfl⟩
theorem stableCalls_zero : StableCalls 0 := by
  intro W vs v ho
  obtain ⟨A, c, rfl⟩ := own_shape ho
  have HO := Lib.hid ho; clear ho
  go_enter Tryd.func34, Tryd.ntmps34
  go_wp2_with (go_at_call 51; refine (stable_zero _ _ _).mono ?_; rintro e w1 ⟨rfl, rfl⟩)
  go_end0
  have hl := HO.out.1
  rw [length_flat] at hl
  exact ⟨rfl, vs, stable_short _ _ (by omega), HO.out, Fr.refl _ _⟩
theorem stable_calls (n : Nat) (h63 : n ≤ 1000000) : StableCalls n := by
  rcases Nat.eq_zero_or_pos n with h0 | h0
  · subst h0; exact stableCalls_zero
  · intro W vs v ho
    obtain ⟨g, cap, rfl⟩ : ∃ g cap, v = .slice (some ⟨g, 0, none⟩) n cap := by
      rcases ho.2 with ⟨rfl, h2⟩ | ⟨g, cap, cur, rfl, _⟩
      · omega
      · exact ⟨g, cap, rfl⟩
    have hb : BR g n cap W vs := ho
    have HB := Lib.hid hb; have HN := Lib.hid (And.intro h63 h0)
    clear ho hb h63 h0
    go_enter Tryd.func34, Tryd.ntmps34
    go_wp2_with (go_at_call 51; refine (stab_any g n cap vs W HB.out HN.out.1 HN.out.2).mono ?_; rintro e w1 ⟨rfl, U, hU, hB1, hF1⟩)
    go_end0
    exact ⟨rfl, U, hU, hB1, hF1.mono (fun k _ hk => by subst hk; rfl)⟩
end Go.Proofs.YtlgonkopojancaaDoor
