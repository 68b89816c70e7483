/- The walk of BitsParts. -/
import Derived.Test.YtghahbododnafaaWOwn
import Derived.Deep.RegionHeld3
import Derived.Deep.DrawnRows
namespace Go.Proofs.Ytghahbododnafaa
open Go.RowKit
open Bt

/-- two Writers side by side -/
theorem isW_two {w0 w : World} {g ga : Nat} {v0 v va : Value} {L M : List Bool} (h : IsW w0 ga va M) (hw : IsW w0 g v0 L) (hg : ga ≠ g) (hd : ∀ j, va.ownBlock = some j → v0.ownBlock ≠ some j) (t : WTurn w0 w g v0 v) :
    IsW w ga va M ∧ ∀ j, va.ownBlock = some j → v.ownBlock ≠ some j := by
  have hb := bytes_turn h.own hw hd t
  refine ⟨⟨t.fr.blk h.blk (fun e => ?_), hb.1, h.le⟩, hb.2⟩
  rcases e with e | e
  · exact hg e
  · exact own_ne hw.own h.blk (by decide) e.symm

theorem bits_split (n k : Nat) (hk : k ≤ 32) (hn : n < 2 ^ 32) : bitsOf n 32 = bitsOf (n % 2 ^ k) k ++ bitsOf (n / 2 ^ k) (32 - k) := by
  refine val_inj _ _ (by simp [length_bitsOf]; omega) ?_
  rw [val_append, val_bitsOf, val_bitsOf, val_bitsOf, length_bitsOf, Nat.mod_mod]
  have e : 2 ^ k * 2 ^ (32 - k) = 2 ^ 32 := by rw [← Nat.pow_add]; congr 1; omega
  have h1 : n / 2 ^ k < 2 ^ (32 - k) := by
    rw [Nat.div_lt_iff_lt_mul (Nat.two_pow_pos k), Nat.mul_comm, e]
    exact hn
  rw [Nat.mod_eq_of_lt h1, Nat.mod_eq_of_lt hn]
  exact (Nat.mod_add_div n (2 ^ k)).symm

theorem bits3 (a n k : Nat) (hk : k ≤ 32) (hn : n < 2 ^ 32) : bitsOf a 3 ++ bitsOf n 32 = (bitsOf a 3 ++ bitsOf (n % 2 ^ k) k) ++ bitsOf (n / 2 ^ k) (32 - k) := by
  rw [bits_split n k hk hn, List.append_assoc]

theorem mod_pow_cast (n k : Nat) (hk : k ≤ 32) : (n : Int) % IntKind.u64.wrap (2 ^ k) = ((n % 2 ^ k : Nat) : Int) := by
  have h2 : 2 ^ k ≤ 2 ^ 32 := Nat.pow_le_pow_right (by omega) hk
  have e : ((2 : Int) ^ k) = ((2 ^ k : Nat) : Int) := by simp
  have e2 : IntKind.u64.wrap (2 ^ k) = ((2 ^ k : Nat) : Int) := by
    rw [IntKind.wrap_u64, e]
    clear e
    generalize 2 ^ k = m at *
    omega
  rw [e2]
  simp

theorem idx_of_drop {l r : List Oper} {i : Nat} {o : Oper} (h : l.drop i = o :: r) : l.toArray[i]? = some o := by
  have : (l.drop i)[0]? = some o := by rw [h]; rfl
  rw [List.getElem?_drop] at this
  simpa using this

set_option linter.unusedSimpArgs false in
set_option maxHeartbeats 8000000 in
theorem bitsParts_walk (w : World) (a0 : Int) (b0 : 0 ≤ a0 ∧ a0 ≤ 255) (a1 : Int) (b1 : 0 ≤ a1 ∧ a1 ≤ 4294967295) (a2 : Int) (b2 : 0 ≤ a2 ∧ a2 ≤ 255) :
    Calls Try.prog 8 #[.int .u8 a0, .int .u32 a1, .int .u8 a2] w fun e w' => e = .returned (.bool true) ∧ Below w.heap.size w w' := by
  obtain ⟨a, rfl⟩ := Int.eq_ofNat_of_zero_le b0.1
  obtain ⟨n, rfl⟩ := Int.eq_ofNat_of_zero_le b1.1
  obtain ⟨c, rfl⟩ := Int.eq_ofNat_of_zero_le b2.1
  obtain ⟨ha0, ha⟩ := b0; obtain ⟨hn0, hn⟩ := b1; obtain ⟨hc0, hc⟩ := b2
  have hk : c % 33 ≤ 32 := by omega
  have hmod := mod_pow_cast n (c % 33) hk
  have hp0 : 0 < 2 ^ (c % 33) := Nat.two_pow_pos _
  have hne : ¬ IntKind.u64.wrap (2 ^ (c % 33)) = 0 := by
    have e := two_pow_u64 (b := ((c % 33 : Nat) : Int)) (by omega) (by omega)
    rw [Int.toNat_natCast] at e
    rw [e]
    have : ((2 : Int) ^ (c % 33)) = ((2 ^ (c % 33) : Nat) : Int) := by simp
    rw [this]
    omega
  have e1 : ((a : Int) % 8).toNat = a % 8 := by omega
  have e2 : ((n : Int) % IntKind.u64.wrap (2 ^ (c % 33))).toNat = n % 2 ^ (c % 33) := by rw [hmod, Int.toNat_natCast]
  have e3 : ((c : Int) % 33).toNat = c % 33 := by omega
  have e4 : ((n : Int) / 2 ^ (c % 33)).toNat = n / 2 ^ (c % 33) := by
    have : ((n : Int) / 2 ^ (c % 33)) = ((n / 2 ^ (c % 33) : Nat) : Int) := by simp
    rw [this, Int.toNat_natCast]
  have e5 : ((32 : Int) - (c : Int) % 33).toNat = 32 - c % 33 := by omega
  have g1 : Good ((a : Int) % 8) 3 := ⟨by decide, by decide, by show (a : Int) % 8 < 8; omega⟩
  have g2 : Good (n : Int) 32 := ⟨by decide, by decide, by show (n : Int) < 4294967296; omega⟩
  have g3 : Good ((n : Int) % IntKind.u64.wrap (2 ^ (c % 33))) ((c : Int) % 33) := ⟨by omega, by omega, by
    rw [hmod, e3]
    have : ((2 : Int) ^ (c % 33)) = ((2 ^ (c % 33) : Nat) : Int) := by simp
    rw [this]
    exact Int.ofNat_lt.2 (Nat.mod_lt _ hp0)⟩
  have hdiv : n / 2 ^ (c % 33) < 2 ^ (32 - c % 33) := by
    have e : 2 ^ (c % 33) * 2 ^ (32 - c % 33) = 2 ^ 32 := by rw [← Nat.pow_add]; congr 1; omega
    rw [Nat.div_lt_iff_lt_mul hp0, Nat.mul_comm, e]
    omega
  have g4 : Good ((n : Int) / 2 ^ (c % 33)) ((32 : Int) - (c : Int) % 33) := ⟨by omega, by omega, by
    rw [e5]
    have e6 : ((n : Int) / 2 ^ (c % 33)) = ((n / 2 ^ (c % 33) : Nat) : Int) := by simp
    have e7 : ((2 : Int) ^ (32 - c % 33)) = ((2 ^ (32 - c % 33) : Nat) : Int) := by simp
    rw [e6, e7]
    exact Int.ofNat_lt.2 hdiv⟩
  have p0 : 0 ≤ (n : Int) % IntKind.u64.wrap (2 ^ (c % 33)) := by rw [hmod]; omega
  have p1 : 0 ≤ (n : Int) / 2 ^ (c % 33) := by
    have e6 : ((n : Int) / 2 ^ (c % 33)) = ((n / 2 ^ (c % 33) : Nat) : Int) := by simp
    rw [e6]; omega
  have HM := Lib.hid hmod; have E1 := Lib.hid e1; have E2 := Lib.hid e2; have E3 := Lib.hid e3; have E4 := Lib.hid e4; have E5 := Lib.hid e5
  have G1 := Lib.hid g1; have G2 := Lib.hid g2; have G3 := Lib.hid g3; have G4 := Lib.hid g4; have P0 := Lib.hid p0; have P1 := Lib.hid p1; have HDv := Lib.hid hdiv
  clear hmod e1 e2 e3 e4 e5 g1 g2 g3 g4 p0 p1 hdiv hp0
  go_enter Try.func8, Try.ntmps8
  go_wp2_with fail
  refine (awake_any w).mono ?_
  rintro e w1 ⟨rfl, hb⟩
  have HB := Lib.hid hb
  have hg1 : w.heap.size ≤ w1.heap.size := hb.size
  clear hb
  have ha1 := isW_new w1
  have hb1 := isW_new (w1.alloc (.cells #[.slice none 0 0, .int .u64 0, .int .i64 0] 28))
  rw [World.size_alloc] at hb1
  have HA1 := Lib.hid (ha1.same (w' := (w1.alloc (.cells #[.slice none 0 0, .int .u64 0, .int .i64 0] 28)).alloc (.cells #[.slice none 0 0, .int .u64 0, .int .i64 0] 28)) ((Fr.refl _ _).alloc _))
  have HB1 := Lib.hid hb1
  have BL1 := Lib.hid ((HB.out.alloc hg1 (.cells #[.slice none 0 0, .int .u64 0, .int .i64 0] 28)).alloc (by simp; omega) (.cells #[.slice none 0 0, .int .u64 0, .int .i64 0] 28))
  clear ha1 hb1
  go_wp2_with fail
  refine (put_ok w1.heap.size _ _ ((a : Int) % 8) 3 _ (by omega) G1.out HA1.out (by decide)).mono ?_
  rintro e w2 ⟨rfl, va, ha2, t2⟩
  have TB := t2.below (B := w.heap.size) BL1.out.size hg1 (From.none _ _ _)
  have IT := isW_two HB1.out HA1.out (by omega) (fun j hj => by simp [Value.ownBlock] at hj) t2
  rw [List.nil_append, E1.out, show Int.toNat 3 = 3 from rfl] at ha2
  have A2 := Lib.hid ha2; have Bw2 := Lib.hid IT.1; have BL2 := Lib.hid (BL1.out.trans TB.1); have FA2 := Lib.hid TB.2
  clear ha2 t2 TB IT
  go_wp2_with fail
  refine (put_ok w1.heap.size _ _ (n : Int) 32 _ (by omega) G2.out A2.out (by rw [length_bitsOf]; decide)).mono ?_
  rintro e w3 ⟨rfl, va3, ha3, t3⟩
  have TB := t3.below (B := w.heap.size) BL2.out.size hg1 FA2.out
  have IT := isW_two Bw2.out A2.out (by omega) (fun j hj => by simp [Value.ownBlock] at hj) t3
  rw [Int.toNat_natCast] at ha3
  have A3 : Hid (IsW w3 w1.heap.size va3 (bitsOf (a % 8) 3 ++ bitsOf n 32)) := ha3
  have Bw3 := Lib.hid IT.1; have BL3 := Lib.hid (BL2.out.trans TB.1); have FA3 := Lib.hid TB.2
  have D3 : Hid (∀ j, va3.ownBlock = some j → (Value.slice none 0 0).ownBlock ≠ some j) := fun j hj => by simp [Value.ownBlock]
  clear ha3 t3 TB IT A2 Bw2 HA1 HB1
  go_wp2_with fail
  refine (put_ok (w1.heap.size + 1) _ _ ((a : Int) % 8) 3 _ (by omega) G1.out Bw3.out (by decide)).mono ?_
  rintro e w4 ⟨rfl, vb4, hb4, t4⟩
  have TB := t4.below (B := w.heap.size) BL3.out.size (by omega) (From.none _ _ _)
  have IT := isW_two A3.out Bw3.out (by omega) D3.out t4
  rw [List.nil_append, E1.out, show Int.toNat 3 = 3 from rfl] at hb4
  have A4 := Lib.hid IT.1; have D4 := Lib.hid IT.2; have Bw4 := Lib.hid hb4; have BL4 := Lib.hid (BL3.out.trans TB.1); have FB4 := Lib.hid TB.2
  clear hb4 t4 TB IT A3 Bw3 D3
  go_wp2_with fail
  refine (put_ok (w1.heap.size + 1) _ _ _ _ _ P0.out G3.out Bw4.out (by rw [length_bitsOf]; decide)).mono ?_
  rintro e w5 ⟨rfl, vb5, hb5, t5⟩
  have TB := t5.below (B := w.heap.size) BL4.out.size (by omega) FB4.out
  have IT := isW_two A4.out Bw4.out (by omega) D4.out t5
  rw [E2.out, E3.out] at hb5
  have A5 := Lib.hid IT.1; have D5 := Lib.hid IT.2; have Bw5 := Lib.hid hb5; have BL5 := Lib.hid (BL4.out.trans TB.1); have FB5 := Lib.hid TB.2
  clear hb5 t5 TB IT A4 Bw4 D4
  go_wp2_with fail
  refine (put_ok (w1.heap.size + 1) _ _ _ _ _ P1.out G4.out Bw5.out (by rw [List.length_append, length_bitsOf, length_bitsOf]; omega)).mono ?_
  rintro e w6 ⟨rfl, vb6, hb6, t6⟩
  have TB := t6.below (B := w.heap.size) BL5.out.size (by omega) FB5.out
  have IT := isW_two A5.out Bw5.out (by omega) D5.out t6
  rw [E4.out, E5.out, ← bits3 (a % 8) n (c % 33) hk (by omega)] at hb6
  have A6 := Lib.hid IT.1; have Bw6 := Lib.hid hb6; have BL6 := Lib.hid (BL5.out.trans TB.1)
  clear hb6 t6 TB IT A5 Bw5 D5
  have hLen := Lib.hid (show (bitsOf (a % 8) 3 ++ bitsOf n 32).length = 35 by rw [List.length_append, length_bitsOf, length_bitsOf])
  obtain ⟨L, hL⟩ : ∃ L, L = bitsOf (a % 8) 3 ++ bitsOf n 32 := ⟨_, rfl⟩
  rw [← hL] at A6 Bw6 hLen
  have HL := Lib.hid hL; clear hL
  have hl1 : L.length ≤ 1000000 := by rw [hLen.out]; decide
  go_wp2_with fail
  have hX5 : (pad L).length = 5 := by rw [length_pad, hLen.out]
  have hU : unbits (pad L) = L ++ List.replicate 5 false := by rw [unbits_pad, hLen.out]
  have hv2 : val (((unbits (pad L)).drop 3).take (c % 33)) = n % 2 ^ (c % 33) := by
    rw [hU, HL.out, bits3 (a % 8) n (c % 33) hk (by omega), List.append_assoc, List.append_assoc, List.drop_left' (length_bitsOf 3 _), List.take_left' (length_bitsOf (c % 33) _), val_bitsOf, Nat.mod_mod]
  have hv3 : val (((unbits (pad L)).drop (3 + c % 33)).take (32 - c % 33)) = n / 2 ^ (c % 33) := by
    rw [hU, HL.out, bits3 (a % 8) n (c % 33) hk (by omega), List.append_assoc, List.drop_left' (by rw [List.length_append, length_bitsOf, length_bitsOf]), List.take_left' (length_bitsOf (32 - c % 33) _), val_bitsOf, Nat.mod_eq_of_lt HDv.out]
  have HX5 := Lib.hid hX5; have HV2 := Lib.hid hv2; have HV3 := Lib.hid hv3
  clear hX5 hU hv2 hv3
  refine wp_region_noPanic ?_
  refine wp_region_held_drew (S := fun _ => True) (by kernel_rfl) trivial (fun hHeld => ?_)
  refine wpAnyH_take (i := 0) (v := ?vx1) (idx_of_drop rfl) (by kernel_rfl) (by kernel_rfl) (by kernel_rfl) (fun _ _ _ h => h) (Or.inl ⟨by rfl, ?yx1⟩) (by assumption) ?rx1
  case yx1 => (intro w hSw; go_simp <;> with_reducible rfl)
  (try simp only [Act.put, List.setIfInBounds_toArray, List.set_cons_zero, List.set_cons_succ])
  refine wpAnyH_take (i := 1) (v := ?vx2) (idx_of_drop rfl) (by kernel_rfl) (by kernel_rfl) (by kernel_rfl) (fun _ _ _ h => h) (Or.inl ⟨by rfl, ?yx2⟩) (by assumption) ?rx2
  case yx2 => (intro w hSw; go_simp <;> with_reducible rfl)
  (try simp only [Act.put, List.setIfInBounds_toArray, List.set_cons_zero, List.set_cons_succ])
  refine wpAnyH_take (i := 2) (v := ?vx3) (idx_of_drop rfl) (by kernel_rfl) (by kernel_rfl) (by kernel_rfl) (fun _ _ _ h => h) (Or.inl ⟨by rfl, ?yx3⟩) (by assumption) ?rx3
  case yx3 => (intro w hSw; go_simp <;> with_reducible rfl)
  (try simp only [Act.put, List.setIfInBounds_toArray, List.set_cons_zero, List.set_cons_succ])
  refine wpAnyH_take (i := 3) (v := ?vx4) (idx_of_drop rfl) (by kernel_rfl) (by kernel_rfl) (by kernel_rfl) (fun _ _ _ h => h) (Or.inl ⟨by rfl, ?yx4⟩) (by assumption) ?rx4
  case yx4 => (intro w hSw; go_simp <;> with_reducible rfl)
  (try simp only [Act.put, List.setIfInBounds_toArray, List.set_cons_zero, List.set_cons_succ])
  refine wpAnyH_take (i := 4) (v := ?vx5) (idx_of_drop rfl) (by kernel_rfl) (by kernel_rfl) (by kernel_rfl) (fun _ _ _ h => h) (Or.inl ⟨by rfl, ?yx5⟩) (by assumption) ?rx5
  case yx5 => (intro w hSw; go_simp <;> with_reducible rfl)
  (try simp only [Act.put, List.setIfInBounds_toArray, List.set_cons_zero, List.set_cons_succ])
  refine wpAnyH_take (i := 5) (v := ?vx6) (idx_of_drop rfl) (by kernel_rfl) (by kernel_rfl) (by kernel_rfl) (fun _ _ _ h => h) (Or.inl ⟨by rfl, ?yx6⟩) (by assumption) ?rx6
  case yx6 => (intro w hSw; go_simp <;> with_reducible rfl)
  (try simp only [Act.put, List.setIfInBounds_toArray, List.set_cons_zero, List.set_cons_succ])
  refine wpAnyH_take (i := 6) (v := ?vx7) (idx_of_drop rfl) (by kernel_rfl) (by kernel_rfl) (by kernel_rfl) (fun _ _ _ h => h) (Or.inl ⟨by rfl, ?yx7⟩) (by assumption) ?rx7
  case yx7 => (intro w hSw; go_simp <;> with_reducible rfl)
  (try simp only [Act.put, List.setIfInBounds_toArray, List.set_cons_zero, List.set_cons_succ])
  refine wpAnyH_take (i := 7) (v := ?vx8) (idx_of_drop rfl) (by kernel_rfl) (by kernel_rfl) (by kernel_rfl) (fun _ _ _ h => h) (Or.inl ⟨by rfl, ?yx8⟩) (by assumption) ?rx8
  case yx8 => (intro w hSw; go_simp <;> with_reducible rfl)
  (try simp only [Act.put, List.setIfInBounds_toArray, List.set_cons_zero, List.set_cons_succ])
  refine wpAnyH_take (i := 8) (v := ?vx9) (idx_of_drop rfl) (by kernel_rfl) (by kernel_rfl) (by kernel_rfl) (fun _ _ _ h => h) (Or.inl ⟨by rfl, ?yx9⟩) (by assumption) ?rx9
  case yx9 => (intro w hSw; go_simp <;> with_reducible rfl)
  (try simp only [Act.put, List.setIfInBounds_toArray, List.set_cons_zero, List.set_cons_succ])
  refine wpAnyH_take (i := 9) (v := ?vx10) (idx_of_drop rfl) (by kernel_rfl) (by kernel_rfl) (by kernel_rfl) (fun _ _ _ h => h) (Or.inl ⟨by rfl, ?yx10⟩) (by assumption) ?rx10
  case yx10 => (intro w hSw; go_simp <;> with_reducible rfl)
  (try simp only [Act.put, List.setIfInBounds_toArray, List.set_cons_zero, List.set_cons_succ])
  refine wpAnyH_take (i := 10) (v := ?vx11) (idx_of_drop rfl) (by kernel_rfl) (by kernel_rfl) (by kernel_rfl) (fun _ _ _ h => h) (Or.inl ⟨by rfl, ?yx11⟩) (by assumption) ?rx11
  case yx11 => (intro w hSw; go_simp <;> with_reducible rfl)
  (try simp only [Act.put, List.setIfInBounds_toArray, List.set_cons_zero, List.set_cons_succ])
  refine wpAnyH_take (i := 11) (v := ?vx12) (idx_of_drop rfl) (by kernel_rfl) (by kernel_rfl) (by kernel_rfl) (fun _ _ _ h => h) (Or.inl ⟨by rfl, ?yx12⟩) (by assumption) ?rx12
  case yx12 => (intro w hSw; go_simp <;> with_reducible rfl)
  (try simp only [Act.put, List.setIfInBounds_toArray, List.set_cons_zero, List.set_cons_succ])
  refine wpAnyH_take (i := 12) (v := ?vx13) (idx_of_drop rfl) (by kernel_rfl) (by kernel_rfl) (by kernel_rfl) (fun _ _ _ h => h) (Or.inl ⟨by rfl, ?yx13⟩) (by assumption) ?rx13
  case yx13 => (intro w hSw; go_simp <;> with_reducible rfl)
  (try simp only [Act.put, List.setIfInBounds_toArray, List.set_cons_zero, List.set_cons_succ])
  refine wpAnyH_take (i := 13) (v := ?vx14) (idx_of_drop rfl) (by kernel_rfl) (by kernel_rfl) (by kernel_rfl) (fun _ _ _ h => h) (Or.inl ⟨by rfl, ?yx14⟩) (by assumption) ?rx14
  case yx14 => (intro w hSw; go_simp <;> with_reducible rfl)
  (try simp only [Act.put, List.setIfInBounds_toArray, List.set_cons_zero, List.set_cons_succ])
  refine wpAnyH_take (i := 14) (v := ?vx15) (idx_of_drop rfl) (by kernel_rfl) (by kernel_rfl) (by kernel_rfl) (fun _ _ _ h => h) (Or.inl ⟨by rfl, ?yx15⟩) (by assumption) ?rx15
  case yx15 => (intro w hSw; go_simp <;> with_reducible rfl)
  (try simp only [Act.put, List.setIfInBounds_toArray, List.set_cons_zero, List.set_cons_succ])
  refine wpAnyH_take (i := 15) (v := ?vx16) (idx_of_drop rfl) (by kernel_rfl) (by kernel_rfl) (by kernel_rfl) (fun _ _ _ h => h) (Or.inl ⟨by rfl, ?yx16⟩) (by assumption) ?rx16
  case yx16 => (intro w hSw; go_simp <;> with_reducible rfl)
  (try simp only [Act.put, List.setIfInBounds_toArray, List.set_cons_zero, List.set_cons_succ])
  refine wpAnyH_take (i := 16) (v := ?vx17) (idx_of_drop rfl) (by kernel_rfl) (by kernel_rfl) (by kernel_rfl) (fun _ _ _ h => h) (Or.inl ⟨by rfl, ?yx17⟩) (by assumption) ?rx17
  case yx17 => (intro w hSw; go_simp <;> with_reducible rfl)
  (try simp only [Act.put, List.setIfInBounds_toArray, List.set_cons_zero, List.set_cons_succ])
  refine wpAnyH_take (i := 17) (v := ?vx18) (idx_of_drop rfl) (by kernel_rfl) (by kernel_rfl) (by kernel_rfl) (fun _ _ _ h => h) (Or.inl ⟨by rfl, ?yx18⟩) (by assumption) ?rx18
  case yx18 => (intro w hSw; go_simp <;> with_reducible rfl)
  (try simp only [Act.put, List.setIfInBounds_toArray, List.set_cons_zero, List.set_cons_succ])
  refine wpAnyH_take (i := 18) (v := ?vx19) (idx_of_drop rfl) (by kernel_rfl) (by kernel_rfl) (by kernel_rfl) (fun _ _ _ h => h) (Or.inl ⟨by rfl, ?yx19⟩) (by assumption) ?rx19
  case yx19 => (intro w hSw; go_simp <;> with_reducible rfl)
  (try simp only [Act.put, List.setIfInBounds_toArray, List.set_cons_zero, List.set_cons_succ])
  refine wpAnyH_take (i := 19) (v := ?vx20) (idx_of_drop rfl) (by kernel_rfl) (by kernel_rfl) (by kernel_rfl) (fun _ _ _ h => h) (Or.inl ⟨by rfl, ?yx20⟩) (by assumption) ?rx20
  case yx20 => (intro w hSw; go_simp <;> with_reducible rfl)
  (try simp only [Act.put, List.setIfInBounds_toArray, List.set_cons_zero, List.set_cons_succ])
  refine wpAnyH_take (i := 22) (v := ?vx21) (idx_of_drop rfl) (by kernel_rfl) (by kernel_rfl) (by kernel_rfl) (fun _ _ _ h => h) (Or.inl ⟨by rfl, ?yx21⟩) (by assumption) ?rx21
  case yx21 => (intro w hSw; go_simp <;> with_reducible rfl)
  (try simp only [Act.put, List.setIfInBounds_toArray, List.set_cons_zero, List.set_cons_succ])
  refine wpAnyH_ready (rs := [20]) (by kernel_rfl) (by simp) ?_
  refine AllReadyH.cons (idx_of_drop rfl) (fun K hK => ?sx22) ?mx22
  case sx22 =>
    go_simp
    (go_at_call 13; refine (wbytes_any w1.heap.size va3 L _ (by exact A6.out.same (Fr.refl _ _).drew) hl1).mono ?_; rintro e w7 ⟨v7, rfl, h7, s7, f7⟩; obtain ⟨A7, c7, rfl, r7⟩ := own_reads h7; have q7 := conv_reads (c := c7) r7; have R7 := Lib.hid r7; have S7 := Lib.hid s7; clear h7 s7 f7 r7)
    refine hK.out _ _ trivial (fun hHeld => ?_)
    clear hK K
    (try simp only [Act.put, List.setIfInBounds_toArray, List.set_cons_zero, List.set_cons_succ])
    refine wpAnyH_ready (rs := [21, 23]) (by kernel_rfl) (by simp) ?_
    refine AllReadyH.cons (idx_of_drop rfl) (fun K hK => ?sx23) ?mx23
    case sx23 =>
      go_simp
      refine hK.out _ _ trivial (fun hHeld => ?_)
      clear hK K
      (try simp only [Act.put, List.setIfInBounds_toArray, List.set_cons_zero, List.set_cons_succ])
      refine wpAnyH_ready (rs := [23]) (by kernel_rfl) (by simp) ?_
      refine AllReadyH.cons (idx_of_drop rfl) (fun K hK => ?sx24) ?mx24
      case sx24 =>
        go_simp
        (go_at_call 13; refine (wbytes_any (w1.heap.size + 1) vb6 L _ (by exact Bw6.out.same ((Fr.refl _ _).drew.trans' S7.out)) hl1).mono ?_; rintro e w8 ⟨v8, rfl, h8, s8, f8⟩; obtain ⟨A8, c8, rfl, r8⟩ := own_reads h8; have q8 := conv_reads (c := c8) r8; have q9 := conv_reads (c := c7) (R7.out.fr s8 (fun _ _ _ h => h)); have S8 := Lib.hid s8; clear h8 s8 f8 r8)
        refine hK.out _ _ trivial (fun hHeld => ?_)
        clear hK K
        (try simp only [Act.put, List.setIfInBounds_toArray, List.set_cons_zero, List.set_cons_succ])
        refine wpAnyH_ready (rs := [24]) (by kernel_rfl) (by simp) ?_
        refine AllReadyH.cons (idx_of_drop rfl) (fun K hK => ?sx25) ?mx25
        case sx25 =>
          go_simp
          refine hK.out _ _ trivial (fun hHeld => ?_)
          clear hK K
          (try simp only [Act.put, List.setIfInBounds_toArray, List.set_cons_zero, List.set_cons_succ])
          refine wpAnyH_take (i := 25) (v := ?vx26) (idx_of_drop rfl) (by kernel_rfl) (by kernel_rfl) (by kernel_rfl) (fun _ _ _ h => h) (Or.inl ⟨by rfl, ?yx26⟩) (by assumption) ?rx26
          case yx26 => (intro w hSw; go_simp <;> with_reducible rfl)
          (try simp only [Act.put, List.setIfInBounds_toArray, List.set_cons_zero, List.set_cons_succ])
          refine wpAnyH_take (i := 26) (v := ?vx27) (idx_of_drop rfl) (by kernel_rfl) (by kernel_rfl) (by kernel_rfl) (fun _ _ _ h => h) (Or.inl ⟨by rfl, ?yx27⟩) (by assumption) ?rx27
          case yx27 => (intro w hSw; go_simp <;> with_reducible rfl)
          (try simp only [Act.put, List.setIfInBounds_toArray, List.set_cons_zero, List.set_cons_succ])
          refine wpAnyH_done (by kernel_rfl) ?_ _
          refine NoPanic.normal ?_
          have S78 : Same w6 w8 := (Fr.refl (fun _ => False) w6).drew.trans' (S7.out.trans' S8.out)
          have A8 := Lib.hid (A6.out.same S78)
          have BL8 := Lib.hid (BL6.out.trans (S78.belowSame BL6.out.size))
          clear S78
          go_wp2_with fail
          refine (wbytes_any w1.heap.size va3 L w8 A8.out hl1).mono ?_
          rintro e w9 ⟨v9, rfl, h9, s9, f9⟩
          have h9 : w9.ownsRow 0 5 1 v9 5 ((pad L).map (Value.int .u8)) := by
            rw [hLen.out] at h9
            exact h9
          obtain ⟨A9, c9, rfl, r9⟩ := own_reads h9
          have BL9 := Lib.hid (BL8.out.trans (s9.belowSame BL8.out.size))
          have HNW := new_any A9 c9 (pad L) w9 (by rw [HX5.out]; exact r9)
          rw [HX5.out] at HNW
          have HNW := Lib.hid HNW
          clear h9 s9 f9 r9
          go_wp2_with fail
          refine HNW.out.mono ?_
          rintro e w10 ⟨rfl, hr10, s10⟩
          have BL10 := Lib.hid (BL9.out.trans (s10.belowSame BL9.out.size))
          have hg : w.heap.size ≤ w9.heap.size := BL9.out.size
          have HR10 := Lib.hid hr10
          clear s10 hr10 HNW
          generalize w9.heap.size = g at *
          have HPB := Lib.hid (pad_bytes L)
          generalize pad L = X at *
          have HT1 := Lib.hid (take_good g A9 c9 X 0 3 w10 HR10.out HPB.out (by rw [HX5.out]; decide) (Nat.zero_le _) (by decide) (by decide) (by rw [HX5.out]; decide))
          go_wp2_with fail
          refine HT1.out.mono ?_
          rintro e w11 ⟨rfl, hr11, hf11⟩
          have hr11 : IsR w11 g A9 c9 X 3 := hr11
          have BL11 := Lib.hid (BL10.out.trans (hf11.belowEq BL10.out.size hg))
          have HT2 := take_good g A9 c9 X 3 ((c : Int) % 33) w11 hr11 HPB.out (by rw [HX5.out]; decide) (by rw [HX5.out]; decide) (by omega) (by omega) (by rw [HX5.out]; omega)
          rw [E3.out, HV2.out] at HT2
          have HT2 := Lib.hid HT2
          clear hr11 hf11
          go_wp2_with fail
          refine HT2.out.mono ?_
          rintro e w12 ⟨rfl, hr12, hf12⟩
          have BL12 := Lib.hid (BL11.out.trans (hf12.belowEq BL11.out.size hg))
          have HT3 := take_good g A9 c9 X (3 + c % 33) ((32 : Int) - (c : Int) % 33) w12 hr12 HPB.out (by rw [HX5.out]; decide) (by rw [HX5.out]; omega) (by omega) (by omega) (by rw [HX5.out]; omega)
          rw [E5.out, HV3.out] at HT3
          have HT3 := Lib.hid HT3
          clear hr12 hf12
          go_wp2_with fail
          refine HT3.out.mono ?_
          rintro e w13 ⟨rfl, hr13, hf13⟩
          have BL13 := Lib.hid (BL12.out.trans (hf13.belowEq BL12.out.size hg))
          clear hr13 hf13
          have hq : ((n : Int) % 2 ^ (c % 33) == (n : Int) % IntKind.u64.wrap (2 ^ (c % 33))) = true := by
            rw [HM.out, beq_iff_eq]; simp
          go_wp2
          go_ret
          exact ⟨rfl, BL13.out⟩
        exact AllReadyH.nil
      exact AllReadyH.nil
    refine AllReadyH.cons (idx_of_drop rfl) (fun K hK => ?sx28) ?mx28
    case sx28 =>
      go_simp
      (go_at_call 13; refine (wbytes_any (w1.heap.size + 1) vb6 L _ (by exact Bw6.out.same ((Fr.refl _ _).drew.trans' S7.out)) hl1).mono ?_; rintro e w8 ⟨v8, rfl, h8, s8, f8⟩; obtain ⟨A8, c8, rfl, r8⟩ := own_reads h8; have q8 := conv_reads (c := c8) r8; have q9 := conv_reads (c := c7) (R7.out.fr s8 (fun _ _ _ h => h)); have S8 := Lib.hid s8; clear h8 s8 f8 r8)
      refine hK.out _ _ trivial (fun hHeld => ?_)
      clear hK K
      (try simp only [Act.put, List.setIfInBounds_toArray, List.set_cons_zero, List.set_cons_succ])
      refine wpAnyH_ready (rs := [21, 24]) (by kernel_rfl) (by simp) ?_
      refine AllReadyH.cons (idx_of_drop rfl) (fun K hK => ?sx29) ?mx29
      case sx29 =>
        go_simp
        refine hK.out _ _ trivial (fun hHeld => ?_)
        clear hK K
        (try simp only [Act.put, List.setIfInBounds_toArray, List.set_cons_zero, List.set_cons_succ])
        refine wpAnyH_ready (rs := [24]) (by kernel_rfl) (by simp) ?_
        refine AllReadyH.cons (idx_of_drop rfl) (fun K hK => ?sx30) ?mx30
        case sx30 =>
          go_simp
          refine hK.out _ _ trivial (fun hHeld => ?_)
          clear hK K
          (try simp only [Act.put, List.setIfInBounds_toArray, List.set_cons_zero, List.set_cons_succ])
          refine wpAnyH_take (i := 25) (v := ?vx31) (idx_of_drop rfl) (by kernel_rfl) (by kernel_rfl) (by kernel_rfl) (fun _ _ _ h => h) (Or.inl ⟨by rfl, ?yx31⟩) (by assumption) ?rx31
          case yx31 => (intro w hSw; go_simp <;> with_reducible rfl)
          (try simp only [Act.put, List.setIfInBounds_toArray, List.set_cons_zero, List.set_cons_succ])
          refine wpAnyH_take (i := 26) (v := ?vx32) (idx_of_drop rfl) (by kernel_rfl) (by kernel_rfl) (by kernel_rfl) (fun _ _ _ h => h) (Or.inl ⟨by rfl, ?yx32⟩) (by assumption) ?rx32
          case yx32 => (intro w hSw; go_simp <;> with_reducible rfl)
          (try simp only [Act.put, List.setIfInBounds_toArray, List.set_cons_zero, List.set_cons_succ])
          refine wpAnyH_done (by kernel_rfl) ?_ _
          refine NoPanic.normal ?_
          have S78 : Same w6 w8 := (Fr.refl (fun _ => False) w6).drew.trans' (S7.out.trans' S8.out)
          have A8 := Lib.hid (A6.out.same S78)
          have BL8 := Lib.hid (BL6.out.trans (S78.belowSame BL6.out.size))
          clear S78
          go_wp2_with fail
          refine (wbytes_any w1.heap.size va3 L w8 A8.out hl1).mono ?_
          rintro e w9 ⟨v9, rfl, h9, s9, f9⟩
          have h9 : w9.ownsRow 0 5 1 v9 5 ((pad L).map (Value.int .u8)) := by
            rw [hLen.out] at h9
            exact h9
          obtain ⟨A9, c9, rfl, r9⟩ := own_reads h9
          have BL9 := Lib.hid (BL8.out.trans (s9.belowSame BL8.out.size))
          have HNW := new_any A9 c9 (pad L) w9 (by rw [HX5.out]; exact r9)
          rw [HX5.out] at HNW
          have HNW := Lib.hid HNW
          clear h9 s9 f9 r9
          go_wp2_with fail
          refine HNW.out.mono ?_
          rintro e w10 ⟨rfl, hr10, s10⟩
          have BL10 := Lib.hid (BL9.out.trans (s10.belowSame BL9.out.size))
          have hg : w.heap.size ≤ w9.heap.size := BL9.out.size
          have HR10 := Lib.hid hr10
          clear s10 hr10 HNW
          generalize w9.heap.size = g at *
          have HPB := Lib.hid (pad_bytes L)
          generalize pad L = X at *
          have HT1 := Lib.hid (take_good g A9 c9 X 0 3 w10 HR10.out HPB.out (by rw [HX5.out]; decide) (Nat.zero_le _) (by decide) (by decide) (by rw [HX5.out]; decide))
          go_wp2_with fail
          refine HT1.out.mono ?_
          rintro e w11 ⟨rfl, hr11, hf11⟩
          have hr11 : IsR w11 g A9 c9 X 3 := hr11
          have BL11 := Lib.hid (BL10.out.trans (hf11.belowEq BL10.out.size hg))
          have HT2 := take_good g A9 c9 X 3 ((c : Int) % 33) w11 hr11 HPB.out (by rw [HX5.out]; decide) (by rw [HX5.out]; decide) (by omega) (by omega) (by rw [HX5.out]; omega)
          rw [E3.out, HV2.out] at HT2
          have HT2 := Lib.hid HT2
          clear hr11 hf11
          go_wp2_with fail
          refine HT2.out.mono ?_
          rintro e w12 ⟨rfl, hr12, hf12⟩
          have BL12 := Lib.hid (BL11.out.trans (hf12.belowEq BL11.out.size hg))
          have HT3 := take_good g A9 c9 X (3 + c % 33) ((32 : Int) - (c : Int) % 33) w12 hr12 HPB.out (by rw [HX5.out]; decide) (by rw [HX5.out]; omega) (by omega) (by omega) (by rw [HX5.out]; omega)
          rw [E5.out, HV3.out] at HT3
          have HT3 := Lib.hid HT3
          clear hr12 hf12
          go_wp2_with fail
          refine HT3.out.mono ?_
          rintro e w13 ⟨rfl, hr13, hf13⟩
          have BL13 := Lib.hid (BL12.out.trans (hf13.belowEq BL12.out.size hg))
          clear hr13 hf13
          have hq : ((n : Int) % 2 ^ (c % 33) == (n : Int) % IntKind.u64.wrap (2 ^ (c % 33))) = true := by
            rw [HM.out, beq_iff_eq]; simp
          go_wp2
          go_ret
          exact ⟨rfl, BL13.out⟩
        exact AllReadyH.nil
      refine AllReadyH.cons (idx_of_drop rfl) (fun K hK => ?sx33) ?mx33
      case sx33 =>
        go_simp
        refine hK.out _ _ trivial (fun hHeld => ?_)
        clear hK K
        (try simp only [Act.put, List.setIfInBounds_toArray, List.set_cons_zero, List.set_cons_succ])
        refine wpAnyH_ready (rs := [21]) (by kernel_rfl) (by simp) ?_
        refine AllReadyH.cons (idx_of_drop rfl) (fun K hK => ?sx34) ?mx34
        case sx34 =>
          go_simp
          refine hK.out _ _ trivial (fun hHeld => ?_)
          clear hK K
          (try simp only [Act.put, List.setIfInBounds_toArray, List.set_cons_zero, List.set_cons_succ])
          refine wpAnyH_take (i := 25) (v := ?vx35) (idx_of_drop rfl) (by kernel_rfl) (by kernel_rfl) (by kernel_rfl) (fun _ _ _ h => h) (Or.inl ⟨by rfl, ?yx35⟩) (by assumption) ?rx35
          case yx35 => (intro w hSw; go_simp <;> with_reducible rfl)
          (try simp only [Act.put, List.setIfInBounds_toArray, List.set_cons_zero, List.set_cons_succ])
          refine wpAnyH_take (i := 26) (v := ?vx36) (idx_of_drop rfl) (by kernel_rfl) (by kernel_rfl) (by kernel_rfl) (fun _ _ _ h => h) (Or.inl ⟨by rfl, ?yx36⟩) (by assumption) ?rx36
          case yx36 => (intro w hSw; go_simp <;> with_reducible rfl)
          (try simp only [Act.put, List.setIfInBounds_toArray, List.set_cons_zero, List.set_cons_succ])
          refine wpAnyH_done (by kernel_rfl) ?_ _
          refine NoPanic.normal ?_
          have S78 : Same w6 w8 := (Fr.refl (fun _ => False) w6).drew.trans' (S7.out.trans' S8.out)
          have A8 := Lib.hid (A6.out.same S78)
          have BL8 := Lib.hid (BL6.out.trans (S78.belowSame BL6.out.size))
          clear S78
          go_wp2_with fail
          refine (wbytes_any w1.heap.size va3 L w8 A8.out hl1).mono ?_
          rintro e w9 ⟨v9, rfl, h9, s9, f9⟩
          have h9 : w9.ownsRow 0 5 1 v9 5 ((pad L).map (Value.int .u8)) := by
            rw [hLen.out] at h9
            exact h9
          obtain ⟨A9, c9, rfl, r9⟩ := own_reads h9
          have BL9 := Lib.hid (BL8.out.trans (s9.belowSame BL8.out.size))
          have HNW := new_any A9 c9 (pad L) w9 (by rw [HX5.out]; exact r9)
          rw [HX5.out] at HNW
          have HNW := Lib.hid HNW
          clear h9 s9 f9 r9
          go_wp2_with fail
          refine HNW.out.mono ?_
          rintro e w10 ⟨rfl, hr10, s10⟩
          have BL10 := Lib.hid (BL9.out.trans (s10.belowSame BL9.out.size))
          have hg : w.heap.size ≤ w9.heap.size := BL9.out.size
          have HR10 := Lib.hid hr10
          clear s10 hr10 HNW
          generalize w9.heap.size = g at *
          have HPB := Lib.hid (pad_bytes L)
          generalize pad L = X at *
          have HT1 := Lib.hid (take_good g A9 c9 X 0 3 w10 HR10.out HPB.out (by rw [HX5.out]; decide) (Nat.zero_le _) (by decide) (by decide) (by rw [HX5.out]; decide))
          go_wp2_with fail
          refine HT1.out.mono ?_
          rintro e w11 ⟨rfl, hr11, hf11⟩
          have hr11 : IsR w11 g A9 c9 X 3 := hr11
          have BL11 := Lib.hid (BL10.out.trans (hf11.belowEq BL10.out.size hg))
          have HT2 := take_good g A9 c9 X 3 ((c : Int) % 33) w11 hr11 HPB.out (by rw [HX5.out]; decide) (by rw [HX5.out]; decide) (by omega) (by omega) (by rw [HX5.out]; omega)
          rw [E3.out, HV2.out] at HT2
          have HT2 := Lib.hid HT2
          clear hr11 hf11
          go_wp2_with fail
          refine HT2.out.mono ?_
          rintro e w12 ⟨rfl, hr12, hf12⟩
          have BL12 := Lib.hid (BL11.out.trans (hf12.belowEq BL11.out.size hg))
          have HT3 := take_good g A9 c9 X (3 + c % 33) ((32 : Int) - (c : Int) % 33) w12 hr12 HPB.out (by rw [HX5.out]; decide) (by rw [HX5.out]; omega) (by omega) (by omega) (by rw [HX5.out]; omega)
          rw [E5.out, HV3.out] at HT3
          have HT3 := Lib.hid HT3
          clear hr12 hf12
          go_wp2_with fail
          refine HT3.out.mono ?_
          rintro e w13 ⟨rfl, hr13, hf13⟩
          have BL13 := Lib.hid (BL12.out.trans (hf13.belowEq BL12.out.size hg))
          clear hr13 hf13
          have hq : ((n : Int) % 2 ^ (c % 33) == (n : Int) % IntKind.u64.wrap (2 ^ (c % 33))) = true := by
            rw [HM.out, beq_iff_eq]; simp
          go_wp2
          go_ret
          exact ⟨rfl, BL13.out⟩
        exact AllReadyH.nil
      exact AllReadyH.nil
    exact AllReadyH.nil
  exact AllReadyH.nil
end Go.Proofs.Ytghahbododnafaa
