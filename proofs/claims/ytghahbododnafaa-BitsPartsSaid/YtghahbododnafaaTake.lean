/- The walks of Take and Whole. -/
import Derived.Test.YtghahbododnafaaRBytes
namespace Go.Proofs.Ytghahbododnafaa
open Go.RowKit
open Bt

set_option maxHeartbeats 1000000 in
theorem take_arg (g : Nat) (bits : Int) (w : World) (h : bits < 0 ∨ 32 < bits) :
    Calls Try.prog 19 #[.pointer (some ⟨g, 0, none⟩), .int .i64 bits] w fun e w' => e = .returned (.tuple #[.int .u64 0, .int .i64 1]) ∧ Same w w' := by
  by_cases h1 : bits < 0
  · go_enter Try.func19, Try.ntmps19
    go_wp2
    go_step3
    go_wp2
    rw [Exit.noGoto_ret]
    go_ret2
    exact ⟨rfl, Fr.refl _ _⟩
  · have h2 : 32 < bits := by omega
    clear h
    go_enter Try.func19, Try.ntmps19
    go_wp2
    go_step3
    go_wp2
    rw [Exit.noGoto_ret]
    go_ret2
    exact ⟨rfl, Fr.refl _ _⟩

set_option maxHeartbeats 1000000 in
theorem take_short (g : Nat) (A : Option Addr) (c : Nat) (xs : List Int) (p : Nat) (bits : Int) (w : World) (hw : IsR w g A c xs p) (hL : xs.length ≤ 1000000) (hp : p ≤ 8 * xs.length) (h : 0 ≤ bits) (h2 : bits ≤ 32) (h3 : 8 * (xs.length : Int) - p < bits) :
    Calls Try.prog 19 #[.pointer (some ⟨g, 0, none⟩), .int .i64 bits] w fun e w' => e = .returned (.tuple #[.int .u64 0, .int .i64 120]) ∧ Same w w' := by
  have HL := Lib.hid (left_any g A c xs p w hw hL hp)
  clear hw
  go_enter Try.func19, Try.ntmps19
  go_wp2
  go_step3
  go_wp2_with (go_at_call 21; refine HL.out.mono ?_; rintro e w1 ⟨rfl, hs⟩; have HS := Lib.hid hs; clear hs)
  rw [Exit.noGoto_ret]
  go_ret2
  exact ⟨rfl, HS.out⟩

theorem part_mask (x : Int) (j k : Nat) (h0 : 0 ≤ x) (h1 : x ≤ 255) (hk : k ≤ 32) :
    bits .and .u64 (x / 2 ^ j) (IntKind.u64.wrap (IntKind.u64.wrap (2 ^ k) - 1)) = ((x.toNat / 2 ^ j % 2 ^ k : Nat) : Int) := by
  obtain ⟨n, rfl⟩ := Int.eq_ofNat_of_zero_le h0
  have hle : n / 2 ^ j ≤ n := Nat.div_le_self _ _
  have e : ((n : Int) / 2 ^ j) = ((n / 2 ^ j : Nat) : Int) := by simp
  have h2 : 2 ^ k ≤ 2 ^ 32 := Nat.pow_le_pow_right (by omega) hk
  have h3 : 0 < 2 ^ k := Nat.two_pow_pos k
  have e2 : IntKind.u64.wrap (IntKind.u64.wrap (2 ^ k) - 1) = ((2 ^ k - 1 : Nat) : Int) := by
    have e3 : ((2 : Int) ^ k) = ((2 ^ k : Nat) : Int) := by simp
    rw [IntKind.wrap_u64, IntKind.wrap_u64, e3]
    clear e3
    generalize 2 ^ k = m at *
    omega
  rw [e, e2, u64_and_nat _ _ (by clear e e2; generalize n / 2 ^ j = m at *; omega) (by clear e e2; generalize 2 ^ k = m at *; omega), Nat.and_two_pow_sub_one_eq_mod, Int.toNat_natCast]

theorem take_step (xs : List Int) (p got k : Nat) (x : Int) (hx : xs.getD ((p + got) / 8) 0 = x) (h0 : 0 ≤ x) (h1 : x ≤ 255) (hq : (p + got) / 8 < xs.length) (hk : (p + got) % 8 + k ≤ 8) (hgk : got + k ≤ 32) :
    bits .or .u64 (val (((unbits xs).drop p).take got) : Int) (IntKind.u64.wrap (bits .and .u64 (x / 2 ^ ((p + got) % 8)) (IntKind.u64.wrap (IntKind.u64.wrap (2 ^ k) - 1)) * 2 ^ got)) = (val (((unbits xs).drop p).take (got + k)) : Int) := by
  have hl := length_unbits xs
  have hl2 : (((unbits xs).drop p).take got).length = got := by rw [List.length_take, List.length_drop]; omega
  have hp := piece xs ((p + got) / 8) ((p + got) % 8) k hq hk (by rw [hx]; omega)
  rw [show 8 * ((p + got) / 8) + (p + got) % 8 = p + got from by omega, hx] at hp
  have hlen : (((unbits xs).drop (p + got)).take k).length = k := by rw [List.length_take, List.length_drop]; omega
  have hv := val_lt (((unbits xs).drop (p + got)).take k)
  rw [hlen, hp] at hv
  have hv' : ((x.toNat / 2 ^ ((p + got) % 8) % 2 ^ k : Nat) : Int) < 2 ^ k := by
    have e3 : ((2 : Int) ^ k) = ((2 ^ k : Nat) : Int) := by simp
    rw [e3]
    exact Int.ofNat_lt.2 hv
  rw [part_mask x _ k h0 h1 (by omega), or_shift _ _ k got hl2 (by omega) (by omega) hv', Int.toNat_natCast, ← hp, List.take_add, List.drop_drop]
  have hb := bitsOf_val (((unbits xs).drop (p + got)).take k)
  rw [hlen] at hb
  rw [hb]

theorem take_done {w w1 : World} {g : Nat} {A : Option Addr} {c : Nat} {xs : List Int} {q k : Nat} {i : Int} (h : IsR w g A c xs q) (hi : i = ((q + k : Nat) : Int)) (f : Same w w1) :
    IsR (w1.setCell ⟨g, 1, none⟩ (.int .i64 i)) g A c xs ((q + k : Nat)) ∧ Fr (fun j => j = g) w (w1.setCell ⟨g, 1, none⟩ (.int .i64 i)) := by
  subst hi
  have f2 : Fr (fun j => j = g) w1 (w1.setCell ⟨g, 1, none⟩ (.int .i64 ((q + k : Nat)))) := (Fr.refl (fun j => j = g) w1).setCell ⟨g, 1, none⟩ _ (fun _ => rfl)
  have h1 := h.same f
  refine ⟨⟨?_, h1.reads.fr f2 (fun hn b hb => h.ne hn b hb), h.ne⟩, f.trans f2 (fun _ _ h => h.elim) (fun _ _ h => h)⟩
  rw [blk_set h1.blk 1 _]; simp

def TakeJ (g : Nat) (bits : Int) (A : Option Addr) (c : Nat) (xs : List Int) (p : Nat) (w0 : World) (a : Act) (w : World) : Prop :=
  ∃ (u : Nat → Value) (got : Nat), a = { tmps := #[.pointer (some ⟨g, 0, none⟩), .int .i64 bits, undef, undef, .int .u64 (val (((unbits xs).drop p).take got)), .int .i64 0, .int .i64 got, u 7, u 8, u 9, u 10, u 11, u 12, u 13, u 14, u 15, u 16, u 17, u 18, u 19, u 20, u 21, u 22, u 23, u 24, u 25, u 26, u 27, u 28, u 29, u 30, u 31, u 32, u 33, u 34, u 35, u 36, u 37, u 38, u 39, u 40, u 41, u 42, u 43, u 44, u 45, u 46, u 47, u 48, u 49, u 50, u 51, u 52, u 53, u 54, u 55, u 56, u 57, u 58, u 59, u 60, u 61, u 62, u 63, u 64, u 65, u 66, u 67, u 68, u 69, u 70, u 71, u 72, u 73, u 74, u 75, u 76, u 77, u 78], defers := [] } ∧
  (got : Int) ≤ bits ∧ IsR w g A c xs ((p + got : Nat)) ∧ Fr (fun j => j = g) w0 w

def TakeMu (bits : Int) (a : Act) (_ : World) : Nat := (bits - intOf (a.tmps.getD 6 undef)).toNat

theorem takeJ_act {g : Nat} {bits : Int} {A : Option Addr} {c : Nat} {xs : List Int} {p got : Nat} {w0 w : World} {u7 u8 u9 u10 u11 u12 u13 u14 u15 u16 u17 u18 u19 u20 u21 u22 u23 u24 u25 u26 u27 u28 u29 u30 u31 u32 u33 u34 u35 u36 u37 u38 u39 u40 u41 u42 u43 u44 u45 u46 u47 u48 u49 u50 u51 u52 u53 u54 u55 u56 u57 u58 u59 u60 u61 u62 u63 u64 u65 u66 u67 u68 u69 u70 u71 u72 u73 u74 u75 u76 u77 u78 : Value} {n i : Int} (hn : n = val (((unbits xs).drop p).take got)) (hi : i = got) (h : (got : Int) ≤ bits) (hr : IsR w g A c xs ((p + got : Nat))) (f : Fr (fun j => j = g) w0 w) :
    TakeJ g bits A c xs p w0 { tmps := #[.pointer (some ⟨g, 0, none⟩), .int .i64 bits, undef, undef, .int .u64 n, .int .i64 0, .int .i64 i, u7, u8, u9, u10, u11, u12, u13, u14, u15, u16, u17, u18, u19, u20, u21, u22, u23, u24, u25, u26, u27, u28, u29, u30, u31, u32, u33, u34, u35, u36, u37, u38, u39, u40, u41, u42, u43, u44, u45, u46, u47, u48, u49, u50, u51, u52, u53, u54, u55, u56, u57, u58, u59, u60, u61, u62, u63, u64, u65, u66, u67, u68, u69, u70, u71, u72, u73, u74, u75, u76, u77, u78], defers := [] } w :=
  ⟨fun i => #[undef, undef, undef, undef, undef, undef, undef, u7, u8, u9, u10, u11, u12, u13, u14, u15, u16, u17, u18, u19, u20, u21, u22, u23, u24, u25, u26, u27, u28, u29, u30, u31, u32, u33, u34, u35, u36, u37, u38, u39, u40, u41, u42, u43, u44, u45, u46, u47, u48, u49, u50, u51, u52, u53, u54, u55, u56, u57, u58, u59, u60, u61, u62, u63, u64, u65, u66, u67, u68, u69, u70, u71, u72, u73, u74, u75, u76, u77, u78].getD i undef, got, by rw [hn, hi]; rfl, h, hr, f⟩

set_option maxHeartbeats 1000000 in
theorem take_good (g : Nat) (A : Option Addr) (c : Nat) (xs : List Int) (p : Nat) (bits : Int) (w : World) (hw : IsR w g A c xs p) (hx : ∀ x ∈ xs, 0 ≤ x ∧ x ≤ 255) (hL : xs.length ≤ 1000000) (hp : p ≤ 8 * xs.length) (h : 0 ≤ bits) (h2 : bits ≤ 32) (h3 : ¬ 8 * (xs.length : Int) - p < bits) :
    Calls Try.prog 19 #[.pointer (some ⟨g, 0, none⟩), .int .i64 bits] w fun e w' => e = .returned (.tuple #[.int .u64 (val (((unbits xs).drop p).take bits.toNat)), .int .i64 0]) ∧ IsR w' g A c xs ((p + bits.toNat : Nat)) ∧ Fr (fun j => j = g) w w' := by
  have HL := Lib.hid (left_any g A c xs p w hw hL hp)
  have HX := Lib.hid hx; clear hx
  have HW := Lib.hid hw; clear hw
  go_enter Try.func19, Try.ntmps19
  go_wp2
  refine wp_scope_loop 0 (TakeJ g bits A c xs p w) (TakeMu bits) rfl ?pass ?first
  case first =>
    intro hp
    have HP := Lib.hid hp; clear hp
    go_wp2_with (go_at_call 21; refine HL.out.mono ?_; rintro e w1 ⟨rfl, hs⟩; have HS := Lib.hid hs; clear hs)
    go_step3
    simp only [Exit.then]
    rename_i hK
    refine hK _ _ (HP.out _ _ ?_)
    exact takeJ_act (got := 0) (by simp [val]) rfl h (HW.out.same HS.out) (HS.out.mono (fun _ _ h => h.elim))
  case pass =>
    rintro a w1 ⟨u, got, rfl, hg, hr, hf⟩
    have c1 : w1.cell? ⟨g, 1, none⟩ = some (.int .i64 ((p + got : Nat))) := by rw [blk_cell hr.blk]; rfl
    have c0 : w1.cell? ⟨g, 0, none⟩ = some (.slice A xs.length c) := by rw [blk_cell hr.blk]; rfl
    have f1 := blk_frozen hr.blk 1
    by_cases hgb : (got : Int) < bits
    · obtain ⟨q, hq⟩ : ∃ q, q = p + got := ⟨_, rfl⟩
      rw [← hq] at c1 hr
      have hql : q / 8 < xs.length := by omega
      obtain ⟨b, o, rfl, hc⟩ := hr.reads.2.2 (by omega)
      have cb := hc (q / 8) hql
      clear hc
      have hmem : xs.getD (q / 8) 0 ∈ xs := by rw [List.getD, List.getElem?_eq_getElem hql]; exact List.getElem_mem hql
      obtain ⟨x0, x1⟩ := HX.out _ hmem
      clear hmem
      generalize hxx : xs.getD (q / 8) 0 = x at *
      have HXX := Lib.hid hxx; clear hxx
      have HQ := Lib.hid hq; clear hq
      have HR := Lib.hid hr; clear hr
      have HF := Lib.hid hf; clear hf
      by_cases hfree : ((8 : Int) - q % 8) ≤ bits - got
      · go_wp2
        go_quiet (fail)
        go_wp2
        go_step3
        have E := HQ.out; subst E
        have key := take_done (k := 8 - (p + got) % 8) HR.out (show (((p + got : Nat) : Int) + (8 - ((p + got : Nat) : Int) % 8)) = ((p + got + (8 - (p + got) % 8) : Nat) : Int) by omega) ((Fr.refl _ _).drewN nq)
        refine ⟨rfl, takeJ_act (got := got + (8 - (p + got) % 8)) ?_ (by omega) (by omega) (by rw [← Nat.add_assoc]; exact key.1) (HF.out.trans' key.2), ?_⟩
        · exact take_step xs p got (8 - (p + got) % 8) x HXX.out x0 x1 hql (by omega) (by omega)
        · simp [TakeMu, intOf]; omega
      · have hfree' : bits - got < ((8 : Int) - q % 8) := by omega
        go_wp2
        go_quiet (fail)
        go_wp2
        go_step3
        have E := HQ.out; subst E
        have key := take_done (k := (bits.toNat - got)) HR.out (show (((p + got : Nat) : Int) + (bits - got)) = ((p + got + (bits.toNat - got) : Nat) : Int) by omega) ((Fr.refl _ _).drewN nq)
        refine ⟨rfl, takeJ_act (got := got + (bits.toNat - got)) ?_ (by omega) (by omega) (by rw [← Nat.add_assoc]; exact key.1) (HF.out.trans' key.2), ?_⟩
        · exact take_step xs p got (bits.toNat - got) x HXX.out x0 x1 hql (by omega) (by omega)
        · simp [TakeMu, intOf]; omega
    · obtain rfl : bits = got := by omega
      have HR := Lib.hid hr; clear hr
      have HF := Lib.hid hf; clear hf
      go_wp2
      simp only [Exit.jump]
      go_ret2
      exact ⟨rfl, HR.out, HF.out⟩
end Go.Proofs.Ytghahbododnafaa
