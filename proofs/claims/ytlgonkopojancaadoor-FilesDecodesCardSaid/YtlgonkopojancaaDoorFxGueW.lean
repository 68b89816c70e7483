/- The walk of guess. -/
import Derived.Test.YtlgonkopojancaaDoorFxGet
namespace Go.Proofs.YtlgonkopojancaaDoor
open Go.RowKit

theorem get_told {A : Option Addr} {n c t a b : Nat} {xs : List Int} {w : World} (hr : Reads w .u8 A n xs) (hb : Bts xs) (hn : n ≤ 1000000) (ht : t ≤ n) (hp : getP xs t = (a, b)) :
    Calls Tryd.prog 55 #[.slice A n c, .int .i64 t] w fun e w' => e = .returned (.tuple #[.int .u64 a, .int .i64 b]) ∧ w' = w := by
  have := get_any A n c t xs w hr hb hn ht
  rw [hp] at this
  exact this
/-- what guess leaves -/
def GuessPost (xs : List Int) (w : World) (e : Ending) (w' : World) : Prop := ∃ A' c', e = .returned (.slice A' (guessP xs).length c') ∧ FRd w' A' (guessP xs).length (guessP xs) ∧ Below w.heap.size w w'
theorem guessB_nil {xs : List Int} {zs : List Nat} {t : Nat} : guessB xs [] zs t = [] := by cases zs <;> rfl
theorem flat_put {a r : List FV} {f : Fi} {P : List Int} {A : Option Addr} {m c : Nat} : (flat (a ++ bareV f :: r)).set (a.length * 4 + 3) (.slice A m c) = flat (a ++ (⟨{ f with body := P }, A, m, c⟩ :: r)) := by
  rw [flat_append, flat_append, flat_cons, flat_cons, List.set_append_right _ _ (by rw [length_flat]; omega), length_flat, Nat.add_sub_cancel_left]
  rfl
/-- what is told of a file that is guessed -/
def FB (xs : List Int) (f : Fi) : Prop := f.name.size ≤ xs.length ∧ (0 ≤ f.mode ∧ f.mode < 4294967296) ∧ (-9223372036854775808 ≤ f.time ∧ f.time ≤ 9223372036854775807)
theorem guessH_ok {xs : List Int} : ∀ (k t : Nat), t ≤ xs.length → (∀ f ∈ (guessH xs k t).1, FB xs f) ∧ (∀ z ∈ (guessH xs k t).2.1, z < 18446744073709551616)
  | 0, _, _ => ⟨fun f hf => by simp [guessH] at hf, fun z hz => by simp [guessH] at hz⟩
  | k + 1, t, ht => by
    rw [guessH]
    split
    · have hs := gStep_le ht
      obtain ⟨h1, h2⟩ := guessH_ok k (gStep xs t).2.2 hs.2
      have a1 := getP_le ht
      have a2 := getP_le (take_le (n := (getP xs t).1) a1.2.1)
      have a3 := getP_le a2.2.1
      refine ⟨fun f hf => ?_, fun z hz => ?_⟩
      · rcases List.mem_cons.1 hf with rfl | hf
        · refine ⟨?_, ⟨Int.natCast_nonneg _, ?_⟩, unzig_range a3.1⟩
          · show (strOf _).size ≤ _
            rw [size_strOf, List.length_take, List.length_drop]
            omega
          · show ((_ % 4294967296 : Nat) : Int) < 4294967296
            omega
        · exact h1 f hf
      · rcases List.mem_cons.1 hz with rfl | hz
        · exact hs.1
        · exact h2 z hz
    · exact ⟨fun f hf => by simp at hf, fun z hz => by simp at hz⟩
def GH (xs : List Int) (N t0 i t : Nat) (fs : List Fi) (zs : List Nat) : Prop := fs.length = i ∧ zs.length = i ∧ i ≤ N ∧ guessH xs N t0 = (fs ++ (guessH xs (N - i) t).1, zs ++ (guessH xs (N - i) t).2.1, (guessH xs (N - i) t).2.2)
theorem gh_step {xs : List Int} {N t0 i t : Nat} {fs : List Fi} {zs : List Nat} {f : Fi} {z t' : Nat} (h : GH xs N t0 i t fs zs) (hi : i < N) (ht : t < xs.length) (hs : gStep xs t = (f, z, t')) : GH xs N t0 (i + 1) t' (fs ++ [f]) (zs ++ [z]) := by
  obtain ⟨h1, h2, h3, h4⟩ := h
  refine ⟨by simp [h1], by simp [h2], hi, ?_⟩
  rw [h4]
  have e : N - i = (N - (i + 1)) + 1 := by omega
  rw [e, guessH, if_pos ht, hs]
  simp
theorem gh_end {xs : List Int} {N t0 i t : Nat} {fs : List Fi} {zs : List Nat} (h : GH xs N t0 i t fs zs) (hi : i = N ∨ xs.length ≤ t) : guessH xs N t0 = (fs, zs, t) := by
  obtain ⟨h1, h2, h3, h4⟩ := h
  rw [h4]
  have e : guessH xs (N - i) t = ([], [], t) := by
    rcases hi with hi | hi
    · rw [hi, Nat.sub_self]; rfl
    · cases hk : N - i with
      | zero => rfl
      | succ k => rw [guessH, if_neg (by omega)]
  rw [e]
  simp
set_option maxRecDepth 20000 in
set_option maxHeartbeats 8000000 in
theorem guess_any (A : Option Addr) (n c : Nat) (xs : List Int) (w : World) (hr : Rd w A n c xs) (hb : Bts xs) (hn : n ≤ 1000000) :
    Calls Tryd.prog 50 #[.slice A n c] w (GuessPost xs w) := by
  have HR := Lib.hid hr; have HB := Lib.hid hb
  have HL : Hid (xs.length = n) := hr.1.1
  have i1 : (n : Int) ≤ 1000000 := by omega
  clear hr hb
  obtain ⟨C, t0, hp0⟩ : ∃ a b, getP xs 0 = (a, b) := ⟨_, _, rfl⟩
  have hq0 := getP_le (xs := xs) (t := 0) (Nat.zero_le _)
  rw [hp0] at hq0
  have HP0 := Lib.hid hp0; have HQ0 := Lib.hid hq0
  have ht0 : (t0 : Int) ≤ n := by have := hq0.2.1; have := HL.out; omega
  clear hp0 hq0
  obtain ⟨i33, hi, hz0, hz1, hz2⟩ := info_parts info33
  have hi33 := And.intro hi (And.intro hz0 (And.intro hz1 hz2))
  have HI := Lib.hid hi33; clear hi hz0 hz1 hz2 hi33
  obtain ⟨i47, hi, hz0, hz1, hz2⟩ := info_parts info47
  have hi47 := And.intro hi (And.intro hz0 (And.intro hz1 hz2))
  have HI47 := Lib.hid hi47; clear hi hz0 hz1 hz2 hi47
  go_enter Tryd.func50, Tryd.ntmps50
  go_wp2_with fail
  refine (get_told (t := 0) HR.out.1 HB.out hn (Nat.zero_le _) HP0.out).mono ?_
  rintro e w1 ⟨rfl, hw⟩
  rw [hw]
  clear hw w1
  go_wp2_with fail
  go_loopw [4, 5, 6, 7, 8, 9, 10, 11, 12, 13, 14, 15, 16, 17] (fun v4 v5 v6 v7 _ _ _ _ _ _ _ _ _ _ wr => ∃ (i t : Nat) (fs : List Fi) (zs : List Nat), v4 = .int .i64 t ∧ v7 = .int .u64 i ∧ (i : Int) ≤ 201 ∧ (t : Int) ≤ n ∧ Hid (GH xs (min C 201) t0 i t fs zs) ∧ Hid (wr.ownsRow 0 33 4 v5 i (flat (fs.map bareV))) ∧ Hid (wr.ownsRow 0 47 1 v6 i (u64s zs)) ∧ Hid (From w.heap.size v5) ∧ Hid (From w.heap.size v6) ∧ Hid (Below w.heap.size w wr)) (fun _ _ _ v7 _ _ _ _ _ _ _ _ _ _ _ => 201 - (intOf v7).toNat)
  case atStart => exact ⟨0, t0, [], [], rfl, rfl, by omega, ht0, ⟨rfl, rfl, Nat.zero_le _, by simp⟩, World.ownsRow_nil _ _ _ _, World.ownsRow_nil _ _ _ _, From.none _ _ _, From.none _ _ _, Below.refl _ _⟩
  case round =>
    obtain ⟨i, t, fs, zs, rfl, rfl, hi, ht, HGH, HO5, HO6, HF5, HF6, HBL⟩ := hrel
    obtain ⟨A5, k5, rfl⟩ := own_shape HO5.out
    obtain ⟨A6, k6, rfl⟩ := own_shape HO6.out
    by_cases hC : (i : Int) < C
    · by_cases h201 : (i : Int) < 201
      · by_cases htn : (t : Int) < n
        · obtain ⟨a, a2, hpa⟩ : ∃ a b, getP xs t = (a, b) := ⟨_, _, rfl⟩
          have hqa := getP_le (xs := xs) (t := t) (by have := HL.out; omega)
          rw [hpa] at hqa
          obtain ⟨nm, hnm⟩ : ∃ nm, (xs.drop a2).take a = nm := ⟨_, rfl⟩
          have hnl : a2 + nm.length ≤ xs.length := by rw [← hnm]; exact take_le hqa.2.1
          obtain ⟨b, b2, hpb⟩ : ∃ a b, getP xs (a2 + nm.length) = (a, b) := ⟨_, _, rfl⟩
          have hqb := getP_le hnl
          rw [hpb] at hqb
          obtain ⟨d, d2, hpd⟩ : ∃ a b, getP xs b2 = (a, b) := ⟨_, _, rfl⟩
          have hqd := getP_le hqb.2.1
          rw [hpd] at hqd
          obtain ⟨z, z2, hpz⟩ : ∃ a b, getP xs d2 = (a, b) := ⟨_, _, rfl⟩
          have hqz := getP_le hqd.2.1
          rw [hpz] at hqz
          have hgs : gStep xs t = (⟨strOf nm, (b % 4294967296 : Nat), unzig d, []⟩, z, z2) := by
            unfold gStep
            simp only [hpa, hnm, hpb, hpd, hpz]
          have HGS := Lib.hid hgs; have HPA := Lib.hid hpa; have HPB := Lib.hid hpb; have HPD := Lib.hid hpd; have HPZ := Lib.hid hpz
          have HQA := Lib.hid hqa; have HQB := Lib.hid hqb; have HQD := Lib.hid hqd; have HQZ := Lib.hid hqz; have HNM := Lib.hid hnm; have HNL := Lib.hid hnl
          have j1 : (a2 : Int) ≤ n := by have := hqa.2.1; have := HL.out; omega
          have j2 : (a2 : Int) + nm.length ≤ n := by have := hnl; have := HL.out; omega
          have j3 : (b2 : Int) ≤ n := by have := hqb.2.1; have := HL.out; omega
          have j4 : (d2 : Int) ≤ n := by have := hqd.2.1; have := HL.out; omega
          have j5 : (z2 : Int) ≤ n := by have := hqz.2.1; have := HL.out; omega
          clear hqa hqb hqd hqz hpa hpb hpd hpz hnm hnl hgs
          go_wp2_with fail
          refine (get_told (HR.out.below HBL.out).1 HB.out hn (by omega) HPA.out).mono ?_
          rintro e w1 ⟨rfl, hw⟩
          rw [hw]
          clear hw w1
          go_wp2_with fail
          refine (piece_any A n c a2 a xs wr (HR.out.below HBL.out).1 HR.out.2.1 hn (by omega) HQA.out.1).mono ?_
          rw [HNM.out]
          rintro e w2 ⟨v10, rfl, ho, hf, hb2⟩
          obtain ⟨A2, c2, rfl, hrn⟩ := own_reads ho
          have HRN := Lib.hid hrn; have HB2 := Lib.hid hb2
          have HBL2 := Lib.hid (HBL.out.trans (hb2.mono HBL.out.size))
          clear ho hf hb2 hrn
          go_wp2_with fail
          have e1 : (a2 : Int) + nm.length = ((a2 + nm.length : Nat) : Int) := by omega
          rw [e1]
          refine (get_told (HR.out.below HBL2.out).1 HB.out hn (by omega) HPB.out).mono ?_
          rintro e w1 ⟨rfl, hw⟩
          rw [hw, ← e1]
          clear hw w1 e1
          go_wp2_with fail
          refine (get_told (HR.out.below HBL2.out).1 HB.out hn (by omega) HPD.out).mono ?_
          rintro e w1 ⟨rfl, hw⟩
          rw [hw]
          clear hw w1
          go_wp2_with fail
          refine (get_told (HR.out.below HBL2.out).1 HB.out hn (by omega) HPZ.out).mono ?_
          rintro e w1 ⟨rfl, hw⟩
          rw [hw]
          clear hw w1
          have c1 := conv_reads (c := c2) HRN.out
          have hbl := HQB.out.1
          have hdl := HQD.out.1
          have d1 : (b : Int) < 18446744073709551616 := by omega
          have d2' : (d : Int) < 18446744073709551616 := by omega
          clear hbl hdl
          go_upto_region 15 with fail
          clear c1
          obtain ⟨h, hh⟩ : ∃ h, w2.heap.size = h := ⟨_, rfl⟩
          obtain ⟨mo, hmo⟩ : ∃ mo : Int, (b : Int) % 4294967296 = mo := ⟨_, rfl⟩
          obtain ⟨sn, hsn⟩ : ∃ sn, strOf nm = sn := ⟨_, rfl⟩
          rw [hmo, hsn, hh]
          have HMO : Hid (((b % 4294967296 : Nat) : Int) = mo) := (by omega : ((b % 4294967296 : Nat) : Int) = mo)
          have HSN := Lib.hid hsn
          by_cases hpar : (d : Int) % 2 = 1
          · have HTI : Hid (-((d : Int) / 2) - 1 = unzig d) := (by unfold unzig; rw [if_neg (by omega)]; omega : -((d : Int) / 2) - 1 = unzig d)
            have hpb1 : ((d : Int) % 2 == 1) = true := by rw [hpar]; rfl
            obtain ⟨W1, hW1⟩ : ∃ W, w2.alloc (.cells #[.string sn, .int .u32 mo, .int .i64 ((d : Int) / 2), .slice none 0 0] 33) = W := ⟨_, rfl⟩
            have hblk : W1.heap[h]? = some (.cells #[.string sn, .int .u32 mo, .int .i64 ((d : Int) / 2), .slice none 0 0] 33 (0, 0)) := by rw [← hW1, ← hh]; exact blk_new w2 _
            have hsm : Same w2 W1 := by rw [← hW1]; exact (Fr.refl _ w2).alloc _
            rw [hW1]
            have y2 : W1.cell? ⟨h, 2, none⟩ = some (.int .i64 ((d : Int) / 2)) := by rw [blk_cell hblk]; rfl
            have y2f : W1.frozen? ⟨h, 2, none⟩ = false := blk_frozen hblk _
            have HBK := Lib.hid (blk_set hblk 2 (.int .i64 (-((d : Int) / 2) - 1)))
            have HSM1 : Hid (Below w2.heap.size w2 (W1.setCell ⟨h, 2, none⟩ (.int .i64 (-((d : Int) / 2) - 1)))) := ((below_fr hsm).setCell (p := ⟨h, 2, none⟩) (Nat.le_of_eq hh) _ : Below w2.heap.size w2 (W1.setCell ⟨h, 2, none⟩ (.int .i64 (-((d : Int) / 2) - 1))))
            clear hW1 hsm hblk hmo hsn hpar
            go_upto_region 17 with fail
            rw [HTI.out] at HBK HSM1 ⊢
            obtain ⟨WX, hWX⟩ : ∃ W, W1.setCell ⟨h, 2, none⟩ (.int .i64 (unzig d)) = W := ⟨_, rfl⟩
            rw [hWX] at HBK HSM1 ⊢
            clear hWX y2 y2f
            replace HBK : Hid (WX.heap[h]? = some (.cells #[.string sn, .int .u32 mo, .int .i64 (unzig d), .slice none 0 0] 33 (0, 0))) := (by simpa using HBK.out : WX.heap[h]? = some (.cells #[.string sn, .int .u32 mo, .int .i64 (unzig d), .slice none 0 0] 33 (0, 0)))
            have HBR := Lib.hid (HB2.out.trans (HSM1.out.mono HB2.out.size))
            have HBX := Lib.hid (HBL.out.trans (HBR.out.mono HBL.out.size))
            have HO5X := Lib.hid ((Fr.of_below HBR.out).own HO5.out (fun _ _ h => h))
            have HO6X := Lib.hid ((Fr.of_below HBR.out).own HO6.out (fun _ _ h => h))
            obtain ⟨tm, htm⟩ : ∃ tm, unzig d = tm := ⟨_, rfl⟩
            rw [htm] at HBK
            have HTM := Lib.hid htm
            have x0 : WX.cell? ⟨h, 0, none⟩ = some (.string sn) := by rw [blk_cell HBK.out]; rfl
            have x1 : WX.cell? ⟨h, 1, none⟩ = some (.int .u32 mo) := by rw [blk_cell HBK.out]; rfl
            have x2 : WX.cell? ⟨h, 2, none⟩ = some (.int .i64 tm) := by rw [blk_cell HBK.out]; rfl
            have x3 : WX.cell? ⟨h, 3, none⟩ = some (.slice none 0 0) := by rw [blk_cell HBK.out]; rfl
            clear htm hpb1
            go_wp2_with (at_builtin; first
              | (refine wpList_append_cells (ys := [.string sn, .int .u32 mo, .int .i64 tm, .slice none 0 0]) rfl (.tmp 90) (.tmp 92) 23 rfl i33 _ 4 56 Tryd.underlying23 HI.out.1 HI.out.2.1 HI.out.2.2.1 HI.out.2.2.2 rfl (by decide) (.slice A5 i k5) i (flat (fs.map bareV)) rfl rfl HO5X.out rfl (one4 (bareV ⟨sn, mo, tm, []⟩)) (by decide) (by omega) ?_; intro v4 w4 hown hgr; obtain ⟨A4, k4, rfl⟩ := own_shape hown; have O4 := Lib.hid hown; have G4 := Lib.hid hgr; have O6 := Lib.hid (hgr.fr.own HO6X.out (fun k hk e => own_own_ne HO5X.out HO6X.out (by decide) e.symm hk)); clear hown hgr)
              | (refine wpList_append_one rfl (.tmp 94) (.tmp 96) 65 rfl i47 (.int .u64 0) 8 Tryd.underlying65 HI47.out.1 HI47.out.2.1 HI47.out.2.2.1 HI47.out.2.2.2 rfl (.slice A6 i k6) i (u64s zs) rfl rfl O6.out rfl (by decide) (by omega) ?_; intro v7 w7 hown hfr hloc; obtain ⟨A7, k7, rfl⟩ := own_shape hown; have O7 := Lib.hid hown; have G7 : Hid (Grew (.slice A6 i k6) (.slice A7 (i + 1) k7) w4 w7) := (⟨hfr, hloc⟩ : Grew (.slice A6 i k6) (.slice A7 (i + 1) k7) w4 w7); have O8 := Lib.hid (hfr.own O4.out (fun k hk e => own_own_ne O6.out O4.out (by decide) e.symm hk)); clear hown hfr hloc))
            go_roundw
            case rel =>
              have hb4 : Below w.heap.size w w4 := HBX.out.trans (G4.out.below HF5.out HBX.out.size)
              have hb7 : Below w.heap.size w w7 := hb4.trans (G7.out.below HF6.out hb4.size)
              refine ⟨i + 1, z2, fs ++ [⟨strOf nm, (b % 4294967296 : Nat), unzig d, []⟩], zs ++ [z], rfl, by go_num, by omega, by omega, gh_step HGH.out (by omega) (by have := HL.out; omega) HGS.out, ?_, ?_, HF5.out.grew G4.out HBX.out.size, HF6.out.grew G7.out hb4.size, hb7⟩
              · show World.ownsRow _ _ _ _ _ _ _
                rw [List.map_append, flat_append, HSN.out, HMO.out, HTM.out]
                exact O8.out
              · show World.ownsRow _ _ _ _ _ _ _
                rw [u64s_snoc]
                exact O7.out
            case measure => simp [intOf]; omega
          · have HTI : Hid ((d : Int) / 2 = unzig d) := (by unfold unzig; rw [if_pos (by omega)]; omega : (d : Int) / 2 = unzig d)
            have hpb1 : ((d : Int) % 2 == 1) = false := beq_eq_false_iff_ne.2 hpar
            obtain ⟨W1, hW1⟩ : ∃ W, w2.alloc (.cells #[.string sn, .int .u32 mo, .int .i64 ((d : Int) / 2), .slice none 0 0] 33) = W := ⟨_, rfl⟩
            have hblk : W1.heap[h]? = some (.cells #[.string sn, .int .u32 mo, .int .i64 ((d : Int) / 2), .slice none 0 0] 33 (0, 0)) := by rw [← hW1, ← hh]; exact blk_new w2 _
            have hsm : Same w2 W1 := by rw [← hW1]; exact (Fr.refl _ w2).alloc _
            rw [hW1]
            have HBK := Lib.hid hblk
            have HSM1 : Hid (Below w2.heap.size w2 W1) := below_fr hsm
            clear hW1 hsm hblk hmo hsn hpar
            go_upto_region 17 with fail
            rw [HTI.out] at HBK ⊢
            obtain ⟨WX, hWX⟩ : ∃ W, W1 = W := ⟨_, rfl⟩
            rw [hWX] at HBK HSM1 ⊢
            clear hWX
            have HBR := Lib.hid (HB2.out.trans (HSM1.out.mono HB2.out.size))
            have HBX := Lib.hid (HBL.out.trans (HBR.out.mono HBL.out.size))
            have HO5X := Lib.hid ((Fr.of_below HBR.out).own HO5.out (fun _ _ h => h))
            have HO6X := Lib.hid ((Fr.of_below HBR.out).own HO6.out (fun _ _ h => h))
            obtain ⟨tm, htm⟩ : ∃ tm, unzig d = tm := ⟨_, rfl⟩
            rw [htm] at HBK
            have HTM := Lib.hid htm
            have x0 : WX.cell? ⟨h, 0, none⟩ = some (.string sn) := by rw [blk_cell HBK.out]; rfl
            have x1 : WX.cell? ⟨h, 1, none⟩ = some (.int .u32 mo) := by rw [blk_cell HBK.out]; rfl
            have x2 : WX.cell? ⟨h, 2, none⟩ = some (.int .i64 tm) := by rw [blk_cell HBK.out]; rfl
            have x3 : WX.cell? ⟨h, 3, none⟩ = some (.slice none 0 0) := by rw [blk_cell HBK.out]; rfl
            clear htm hpb1
            go_wp2_with (at_builtin; first
              | (refine wpList_append_cells (ys := [.string sn, .int .u32 mo, .int .i64 tm, .slice none 0 0]) rfl (.tmp 90) (.tmp 92) 23 rfl i33 _ 4 56 Tryd.underlying23 HI.out.1 HI.out.2.1 HI.out.2.2.1 HI.out.2.2.2 rfl (by decide) (.slice A5 i k5) i (flat (fs.map bareV)) rfl rfl HO5X.out rfl (one4 (bareV ⟨sn, mo, tm, []⟩)) (by decide) (by omega) ?_; intro v4 w4 hown hgr; obtain ⟨A4, k4, rfl⟩ := own_shape hown; have O4 := Lib.hid hown; have G4 := Lib.hid hgr; have O6 := Lib.hid (hgr.fr.own HO6X.out (fun k hk e => own_own_ne HO5X.out HO6X.out (by decide) e.symm hk)); clear hown hgr)
              | (refine wpList_append_one rfl (.tmp 94) (.tmp 96) 65 rfl i47 (.int .u64 0) 8 Tryd.underlying65 HI47.out.1 HI47.out.2.1 HI47.out.2.2.1 HI47.out.2.2.2 rfl (.slice A6 i k6) i (u64s zs) rfl rfl O6.out rfl (by decide) (by omega) ?_; intro v7 w7 hown hfr hloc; obtain ⟨A7, k7, rfl⟩ := own_shape hown; have O7 := Lib.hid hown; have G7 : Hid (Grew (.slice A6 i k6) (.slice A7 (i + 1) k7) w4 w7) := (⟨hfr, hloc⟩ : Grew (.slice A6 i k6) (.slice A7 (i + 1) k7) w4 w7); have O8 := Lib.hid (hfr.own O4.out (fun k hk e => own_own_ne O6.out O4.out (by decide) e.symm hk)); clear hown hfr hloc))
            go_roundw
            case rel =>
              have hb4 : Below w.heap.size w w4 := HBX.out.trans (G4.out.below HF5.out HBX.out.size)
              have hb7 : Below w.heap.size w w7 := hb4.trans (G7.out.below HF6.out hb4.size)
              refine ⟨i + 1, z2, fs ++ [⟨strOf nm, (b % 4294967296 : Nat), unzig d, []⟩], zs ++ [z], rfl, by go_num, by omega, by omega, gh_step HGH.out (by omega) (by have := HL.out; omega) HGS.out, ?_, ?_, HF5.out.grew G4.out HBX.out.size, HF6.out.grew G7.out hb4.size, hb7⟩
              · show World.ownsRow _ _ _ _ _ _ _
                rw [List.map_append, flat_append, HSN.out, HMO.out, HTM.out]
                exact O8.out
              · show World.ownsRow _ _ _ _ _ _ _
                rw [u64s_snoc]
                exact O7.out
            case measure => simp [intOf]; omega
        · have HE := Lib.hid (gh_end HGH.out (Or.inr (by have := HL.out; omega)))
          have HFL : Hid (fs.length = i) := HGH.out.1
          have HZL : Hid (zs.length = i) := HGH.out.2.1
          go_wp2_with fail
          go_loopw [4, 18] (fun v4 v18 wr => ∃ (j t' : Nat) (done : List FV), v4 = .int .i64 t' ∧ v18 = .int .i64 j ∧ (j : Int) ≤ i ∧ (t' : Int) ≤ n ∧ Hid (done.length = j) ∧ Hid (done.map FV.f ++ guessB xs (fs.drop j) (zs.drop j) t' = guessB xs fs zs t) ∧ Hid (wr.ownsRow 0 33 4 (.slice A5 i k5) i (flat (done ++ (fs.drop j).map bareV))) ∧ Hid (wr.ownsRow 0 47 1 (.slice A6 i k6) i (u64s zs)) ∧ Hid (∀ g, A5 = some ⟨g, 0, none⟩ → BodX g wr done) ∧ Hid (Below w.heap.size w wr)) (fun _ v18 _ => i - (intOf v18).toNat)
          case atStart => exact ⟨0, t, [], rfl, rfl, by omega, ht, rfl, rfl, HO5.out, HO6.out, fun g _ v hv => by simp at hv, HBL.out⟩
          case round =>
            clear HO5 HO6 HBL
            obtain ⟨j, t', done, rfl, rfl, hj, ht', HDL, HGB, HO5, HO6, HBX, HBL⟩ := hrel
            by_cases hjl : (j : Int) < i
            · obtain ⟨g, cg, eg, hc⟩ := own_cellsN HO5.out (by omega)
              injection eg with eg1 eg2 eg3
              subst eg1; subst eg3
              obtain ⟨g6, cg6, eg6, hc6⟩ := own_cellsN HO6.out (by omega)
              injection eg6 with eh1 eh2 eh3
              subst eh1; subst eh3
              clear eg2 eh2
              obtain ⟨f, hf⟩ : ∃ f, fs.getD j default = f := ⟨_, rfl⟩
              obtain ⟨z, hz⟩ : ∃ z, zs.getD j 0 = z := ⟨_, rfl⟩
              have hfd : fs.drop j = f :: fs.drop (j + 1) := by rw [← hf, getD_eq (by have := HFL.out; omega)]; exact List.drop_eq_getElem_cons _
              have hzd : zs.drop j = z :: zs.drop (j + 1) := by rw [← hz, List.getD_eq_getElem?_getD, List.getElem?_eq_getElem (by have := HZL.out; omega)]; exact List.drop_eq_getElem_cons _
              have q6 : wr.cell? ⟨g6, j, none⟩ = some (.int .u64 z) := hc6 j _ (by
                unfold u64s
                rw [List.getElem?_map, ← hz, List.getD_eq_getElem?_getD, List.getElem?_eq_getElem (by have := HZL.out; omega)]
                rfl)
              have hz64 : z < 18446744073709551616 := by
                have hh := (guessH_ok (xs := xs) (min C 201) t0 (by have := HL.out; omega)).2
                rw [HE.out] at hh
                refine hh z ?_
                rw [← hz, List.getD_eq_getElem?_getD, List.getElem?_eq_getElem (by have := HZL.out; omega)]
                exact List.getElem_mem _
              obtain ⟨P, hP⟩ : ∃ P, (xs.drop t').take z = P := ⟨_, rfl⟩
              have hPl : t' + P.length ≤ xs.length := by rw [← hP]; exact take_le (by have := HL.out; omega)
              have jP : (t' : Int) + P.length ≤ n := by have := HL.out; omega
              have HFD := Lib.hid hfd; have HZD := Lib.hid hzd; have HZ6 := Lib.hid hz64; have HPP := Lib.hid hP
              clear hc hc6 hf hz hfd hzd hz64 hP hPl
              go_wp2_with fail
              refine (piece_any A n c t' z xs wr (HR.out.below HBL.out).1 HR.out.2.1 hn (by omega) HZ6.out).mono ?_
              rw [HPP.out]
              rintro e w2 ⟨v10, rfl, ho, hf, hb2⟩
              have hrow := (Fr.of_below hb2).own HO5.out (fun _ _ h => h)
              obtain ⟨cs, hg⟩ := row_block hrow
              obtain ⟨A2, c3, rfl, hr2, hx2⟩ := bod_reads ho hg
              have hf3 := hrow.frozenAt (j * 4 + 3)
              have q4 := hrow.cellAt (j * 4 + 3) (by omega)
              have hdn : done.length = j := HDL.out
              rw [flat_at (done ++ (fs.drop j).map bareV) j (by rw [List.length_append, HFD.out]; simp; omega) 3 (.slice none 0 0) (by rw [List.getD_eq_getElem?_getD, List.getElem?_append_right (by omega), hdn, Nat.sub_self, HFD.out]; rfl)] at q4
              obtain ⟨hst1, hst2⟩ := hrow.stored (j * 4 + 3) (.slice A2 P.length c3)
              have HST1 := Lib.hid hst1; have HST2 := Lib.hid hst2; have HR2 := Lib.hid hr2; have HX2 := Lib.hid hx2; have HB2 := Lib.hid hb2
              have HRW := Lib.hid hrow
              clear ho hf hb2 hrow hg hr2 hx2 hst1 hst2 hdn
              go_wp2_with fail
              go_roundw
              case rel =>
                have hfr := Fr.of_grown HST2.out
                have hgw : w.heap.size ≤ g := HF5.out g (by simp [Value.ownBlock])
                refine ⟨j + 1, t' + P.length, done ++ [⟨{ f with body := P }, A2, P.length, c3⟩], by go_num, by go_num, by omega, by omega, ?_, ?_, ?_, ?_, ?_, ?_⟩
                · show (done ++ [_]).length = j + 1
                  rw [List.length_append, HDL.out]; rfl
                · show List.map FV.f (done ++ [_]) ++ _ = _
                  have h1 := HGB.out
                  rw [HFD.out, HZD.out, guessB, HPP.out] at h1
                  rw [← h1, List.map_append, List.append_assoc]
                  rfl
                · show World.ownsRow _ _ _ _ _ _ _
                  have h1 := HST1.out
                  rw [HFD.out, List.map_cons, ← HDL.out, flat_put (P := P)] at h1
                  rw [HDL.out] at h1
                  rw [List.append_assoc]
                  exact h1
                · show World.ownsRow _ _ _ _ _ _ _
                  exact hfr.own ((Fr.of_below HB2.out).own HO6.out (fun _ _ h => h)) (fun k hk e => own_own_ne HRW.out ((Fr.of_below HB2.out).own HO6.out (fun _ _ h => h)) (by decide) (k := k) (by rw [e]; simp [Value.ownBlock]) hk)
                · show ∀ g', some (⟨g, 0, none⟩ : Addr) = some ⟨g', 0, none⟩ → BodX g' _ _
                  intro g' eg
                  injection eg with eg
                  injection eg with eg
                  subst eg
                  refine BodX.fr (w := w2) ?_ hfr (fun j hj => by injection hj)
                  intro v hv
                  rcases List.mem_append.1 hv with h | h
                  · obtain ⟨h1, h2⟩ := HBX.out g rfl v h
                    exact ⟨h1.same HB2.out, h2⟩
                  · simp at h
                    subst h
                    exact ⟨HR2.out, HX2.out⟩
                · exact (HBL.out.trans (HB2.out.mono HBL.out.size)).setCell (p := ⟨g, j * 4 + 3, none⟩) hgw _
              case measure => simp [intOf]; omega
            · have hji : j = i := by omega
              go_wp2_with fail
              go_ret
              have hfd : fs.drop j = [] := List.drop_of_length_le (by have := HFL.out; omega)
              have hgp : guessP xs = done.map FV.f := by
                have h1 := HGB.out
                rw [hfd, guessB_nil, List.append_nil] at h1
                rw [h1]
                unfold guessP
                rw [HP0.out]
                show (match guessH xs (min C 201) t0 with | r => guessB xs r.1 r.2.1 r.2.2) = _
                rw [HE.out]
              have hgl : (guessP xs).length = i := by rw [hgp, List.length_map, HDL.out, hji]
              have hrow := HO5.out
              rw [hfd, List.map_nil, List.append_nil] at hrow
              obtain ⟨A', c', e, hv⟩ := own_vrd hrow (by omega)
              injection e with e1
              subst e1
              have hbod : Bod wr done := by
                rcases Nat.eq_zero_or_pos i with h0 | h0
                · have : done = [] := List.eq_nil_of_length_eq_zero (by rw [HDL.out]; omega)
                  rw [this]
                  exact fun v hv => by simp at hv
                · obtain ⟨g, cg, eg, _⟩ := own_cellsN hrow h0
                  injection eg with eg1
                  exact fun v hv => (HBX.out g eg1 v hv).1
              have hfl := hv.files hbod
              rw [← hgp] at hfl
              unfold GuessPost
              rw [hgl]
              exact ⟨A5, k5, rfl, hfl, HBL.out⟩
      · have HE := Lib.hid (gh_end HGH.out (Or.inl (by have := HGH.out.2.2.1; omega)))
        have HFL : Hid (fs.length = i) := HGH.out.1
        have HZL : Hid (zs.length = i) := HGH.out.2.1
        go_wp2_with fail
        go_loopw [4, 18] (fun v4 v18 wr => ∃ (j t' : Nat) (done : List FV), v4 = .int .i64 t' ∧ v18 = .int .i64 j ∧ (j : Int) ≤ i ∧ (t' : Int) ≤ n ∧ Hid (done.length = j) ∧ Hid (done.map FV.f ++ guessB xs (fs.drop j) (zs.drop j) t' = guessB xs fs zs t) ∧ Hid (wr.ownsRow 0 33 4 (.slice A5 i k5) i (flat (done ++ (fs.drop j).map bareV))) ∧ Hid (wr.ownsRow 0 47 1 (.slice A6 i k6) i (u64s zs)) ∧ Hid (∀ g, A5 = some ⟨g, 0, none⟩ → BodX g wr done) ∧ Hid (Below w.heap.size w wr)) (fun _ v18 _ => i - (intOf v18).toNat)
        case atStart => exact ⟨0, t, [], rfl, rfl, by omega, ht, rfl, rfl, HO5.out, HO6.out, fun g _ v hv => by simp at hv, HBL.out⟩
        case round =>
          clear HO5 HO6 HBL
          obtain ⟨j, t', done, rfl, rfl, hj, ht', HDL, HGB, HO5, HO6, HBX, HBL⟩ := hrel
          by_cases hjl : (j : Int) < i
          · obtain ⟨g, cg, eg, hc⟩ := own_cellsN HO5.out (by omega)
            injection eg with eg1 eg2 eg3
            subst eg1; subst eg3
            obtain ⟨g6, cg6, eg6, hc6⟩ := own_cellsN HO6.out (by omega)
            injection eg6 with eh1 eh2 eh3
            subst eh1; subst eh3
            clear eg2 eh2
            obtain ⟨f, hf⟩ : ∃ f, fs.getD j default = f := ⟨_, rfl⟩
            obtain ⟨z, hz⟩ : ∃ z, zs.getD j 0 = z := ⟨_, rfl⟩
            have hfd : fs.drop j = f :: fs.drop (j + 1) := by rw [← hf, getD_eq (by have := HFL.out; omega)]; exact List.drop_eq_getElem_cons _
            have hzd : zs.drop j = z :: zs.drop (j + 1) := by rw [← hz, List.getD_eq_getElem?_getD, List.getElem?_eq_getElem (by have := HZL.out; omega)]; exact List.drop_eq_getElem_cons _
            have q6 : wr.cell? ⟨g6, j, none⟩ = some (.int .u64 z) := hc6 j _ (by
              unfold u64s
              rw [List.getElem?_map, ← hz, List.getD_eq_getElem?_getD, List.getElem?_eq_getElem (by have := HZL.out; omega)]
              rfl)
            have hz64 : z < 18446744073709551616 := by
              have hh := (guessH_ok (xs := xs) (min C 201) t0 (by have := HL.out; omega)).2
              rw [HE.out] at hh
              refine hh z ?_
              rw [← hz, List.getD_eq_getElem?_getD, List.getElem?_eq_getElem (by have := HZL.out; omega)]
              exact List.getElem_mem _
            obtain ⟨P, hP⟩ : ∃ P, (xs.drop t').take z = P := ⟨_, rfl⟩
            have hPl : t' + P.length ≤ xs.length := by rw [← hP]; exact take_le (by have := HL.out; omega)
            have jP : (t' : Int) + P.length ≤ n := by have := HL.out; omega
            have HFD := Lib.hid hfd; have HZD := Lib.hid hzd; have HZ6 := Lib.hid hz64; have HPP := Lib.hid hP
            clear hc hc6 hf hz hfd hzd hz64 hP hPl
            go_wp2_with fail
            refine (piece_any A n c t' z xs wr (HR.out.below HBL.out).1 HR.out.2.1 hn (by omega) HZ6.out).mono ?_
            rw [HPP.out]
            rintro e w2 ⟨v10, rfl, ho, hf, hb2⟩
            have hrow := (Fr.of_below hb2).own HO5.out (fun _ _ h => h)
            obtain ⟨cs, hg⟩ := row_block hrow
            obtain ⟨A2, c3, rfl, hr2, hx2⟩ := bod_reads ho hg
            have hf3 := hrow.frozenAt (j * 4 + 3)
            have q4 := hrow.cellAt (j * 4 + 3) (by omega)
            have hdn : done.length = j := HDL.out
            rw [flat_at (done ++ (fs.drop j).map bareV) j (by rw [List.length_append, HFD.out]; simp; omega) 3 (.slice none 0 0) (by rw [List.getD_eq_getElem?_getD, List.getElem?_append_right (by omega), hdn, Nat.sub_self, HFD.out]; rfl)] at q4
            obtain ⟨hst1, hst2⟩ := hrow.stored (j * 4 + 3) (.slice A2 P.length c3)
            have HST1 := Lib.hid hst1; have HST2 := Lib.hid hst2; have HR2 := Lib.hid hr2; have HX2 := Lib.hid hx2; have HB2 := Lib.hid hb2
            have HRW := Lib.hid hrow
            clear ho hf hb2 hrow hg hr2 hx2 hst1 hst2 hdn
            go_wp2_with fail
            go_roundw
            case rel =>
              have hfr := Fr.of_grown HST2.out
              have hgw : w.heap.size ≤ g := HF5.out g (by simp [Value.ownBlock])
              refine ⟨j + 1, t' + P.length, done ++ [⟨{ f with body := P }, A2, P.length, c3⟩], by go_num, by go_num, by omega, by omega, ?_, ?_, ?_, ?_, ?_, ?_⟩
              · show (done ++ [_]).length = j + 1
                rw [List.length_append, HDL.out]; rfl
              · show List.map FV.f (done ++ [_]) ++ _ = _
                have h1 := HGB.out
                rw [HFD.out, HZD.out, guessB, HPP.out] at h1
                rw [← h1, List.map_append, List.append_assoc]
                rfl
              · show World.ownsRow _ _ _ _ _ _ _
                have h1 := HST1.out
                rw [HFD.out, List.map_cons, ← HDL.out, flat_put (P := P)] at h1
                rw [HDL.out] at h1
                rw [List.append_assoc]
                exact h1
              · show World.ownsRow _ _ _ _ _ _ _
                exact hfr.own ((Fr.of_below HB2.out).own HO6.out (fun _ _ h => h)) (fun k hk e => own_own_ne HRW.out ((Fr.of_below HB2.out).own HO6.out (fun _ _ h => h)) (by decide) (k := k) (by rw [e]; simp [Value.ownBlock]) hk)
              · show ∀ g', some (⟨g, 0, none⟩ : Addr) = some ⟨g', 0, none⟩ → BodX g' _ _
                intro g' eg
                injection eg with eg
                injection eg with eg
                subst eg
                refine BodX.fr (w := w2) ?_ hfr (fun j hj => by injection hj)
                intro v hv
                rcases List.mem_append.1 hv with h | h
                · obtain ⟨h1, h2⟩ := HBX.out g rfl v h
                  exact ⟨h1.same HB2.out, h2⟩
                · simp at h
                  subst h
                  exact ⟨HR2.out, HX2.out⟩
              · exact (HBL.out.trans (HB2.out.mono HBL.out.size)).setCell (p := ⟨g, j * 4 + 3, none⟩) hgw _
            case measure => simp [intOf]; omega
          · have hji : j = i := by omega
            go_wp2_with fail
            go_ret
            have hfd : fs.drop j = [] := List.drop_of_length_le (by have := HFL.out; omega)
            have hgp : guessP xs = done.map FV.f := by
              have h1 := HGB.out
              rw [hfd, guessB_nil, List.append_nil] at h1
              rw [h1]
              unfold guessP
              rw [HP0.out]
              show (match guessH xs (min C 201) t0 with | r => guessB xs r.1 r.2.1 r.2.2) = _
              rw [HE.out]
            have hgl : (guessP xs).length = i := by rw [hgp, List.length_map, HDL.out, hji]
            have hrow := HO5.out
            rw [hfd, List.map_nil, List.append_nil] at hrow
            obtain ⟨A', c', e, hv⟩ := own_vrd hrow (by omega)
            injection e with e1
            subst e1
            have hbod : Bod wr done := by
              rcases Nat.eq_zero_or_pos i with h0 | h0
              · have : done = [] := List.eq_nil_of_length_eq_zero (by rw [HDL.out]; omega)
                rw [this]
                exact fun v hv => by simp at hv
              · obtain ⟨g, cg, eg, _⟩ := own_cellsN hrow h0
                injection eg with eg1
                exact fun v hv => (HBX.out g eg1 v hv).1
            have hfl := hv.files hbod
            rw [← hgp] at hfl
            unfold GuessPost
            rw [hgl]
            exact ⟨A5, k5, rfl, hfl, HBL.out⟩
    · have HE := Lib.hid (gh_end HGH.out (Or.inl (by have := HGH.out.2.2.1; omega)))
      have HFL : Hid (fs.length = i) := HGH.out.1
      have HZL : Hid (zs.length = i) := HGH.out.2.1
      go_wp2_with fail
      go_loopw [4, 18] (fun v4 v18 wr => ∃ (j t' : Nat) (done : List FV), v4 = .int .i64 t' ∧ v18 = .int .i64 j ∧ (j : Int) ≤ i ∧ (t' : Int) ≤ n ∧ Hid (done.length = j) ∧ Hid (done.map FV.f ++ guessB xs (fs.drop j) (zs.drop j) t' = guessB xs fs zs t) ∧ Hid (wr.ownsRow 0 33 4 (.slice A5 i k5) i (flat (done ++ (fs.drop j).map bareV))) ∧ Hid (wr.ownsRow 0 47 1 (.slice A6 i k6) i (u64s zs)) ∧ Hid (∀ g, A5 = some ⟨g, 0, none⟩ → BodX g wr done) ∧ Hid (Below w.heap.size w wr)) (fun _ v18 _ => i - (intOf v18).toNat)
      case atStart => exact ⟨0, t, [], rfl, rfl, by omega, ht, rfl, rfl, HO5.out, HO6.out, fun g _ v hv => by simp at hv, HBL.out⟩
      case round =>
        clear HO5 HO6 HBL
        obtain ⟨j, t', done, rfl, rfl, hj, ht', HDL, HGB, HO5, HO6, HBX, HBL⟩ := hrel
        by_cases hjl : (j : Int) < i
        · obtain ⟨g, cg, eg, hc⟩ := own_cellsN HO5.out (by omega)
          injection eg with eg1 eg2 eg3
          subst eg1; subst eg3
          obtain ⟨g6, cg6, eg6, hc6⟩ := own_cellsN HO6.out (by omega)
          injection eg6 with eh1 eh2 eh3
          subst eh1; subst eh3
          clear eg2 eh2
          obtain ⟨f, hf⟩ : ∃ f, fs.getD j default = f := ⟨_, rfl⟩
          obtain ⟨z, hz⟩ : ∃ z, zs.getD j 0 = z := ⟨_, rfl⟩
          have hfd : fs.drop j = f :: fs.drop (j + 1) := by rw [← hf, getD_eq (by have := HFL.out; omega)]; exact List.drop_eq_getElem_cons _
          have hzd : zs.drop j = z :: zs.drop (j + 1) := by rw [← hz, List.getD_eq_getElem?_getD, List.getElem?_eq_getElem (by have := HZL.out; omega)]; exact List.drop_eq_getElem_cons _
          have q6 : wr.cell? ⟨g6, j, none⟩ = some (.int .u64 z) := hc6 j _ (by
            unfold u64s
            rw [List.getElem?_map, ← hz, List.getD_eq_getElem?_getD, List.getElem?_eq_getElem (by have := HZL.out; omega)]
            rfl)
          have hz64 : z < 18446744073709551616 := by
            have hh := (guessH_ok (xs := xs) (min C 201) t0 (by have := HL.out; omega)).2
            rw [HE.out] at hh
            refine hh z ?_
            rw [← hz, List.getD_eq_getElem?_getD, List.getElem?_eq_getElem (by have := HZL.out; omega)]
            exact List.getElem_mem _
          obtain ⟨P, hP⟩ : ∃ P, (xs.drop t').take z = P := ⟨_, rfl⟩
          have hPl : t' + P.length ≤ xs.length := by rw [← hP]; exact take_le (by have := HL.out; omega)
          have jP : (t' : Int) + P.length ≤ n := by have := HL.out; omega
          have HFD := Lib.hid hfd; have HZD := Lib.hid hzd; have HZ6 := Lib.hid hz64; have HPP := Lib.hid hP
          clear hc hc6 hf hz hfd hzd hz64 hP hPl
          go_wp2_with fail
          refine (piece_any A n c t' z xs wr (HR.out.below HBL.out).1 HR.out.2.1 hn (by omega) HZ6.out).mono ?_
          rw [HPP.out]
          rintro e w2 ⟨v10, rfl, ho, hf, hb2⟩
          have hrow := (Fr.of_below hb2).own HO5.out (fun _ _ h => h)
          obtain ⟨cs, hg⟩ := row_block hrow
          obtain ⟨A2, c3, rfl, hr2, hx2⟩ := bod_reads ho hg
          have hf3 := hrow.frozenAt (j * 4 + 3)
          have q4 := hrow.cellAt (j * 4 + 3) (by omega)
          have hdn : done.length = j := HDL.out
          rw [flat_at (done ++ (fs.drop j).map bareV) j (by rw [List.length_append, HFD.out]; simp; omega) 3 (.slice none 0 0) (by rw [List.getD_eq_getElem?_getD, List.getElem?_append_right (by omega), hdn, Nat.sub_self, HFD.out]; rfl)] at q4
          obtain ⟨hst1, hst2⟩ := hrow.stored (j * 4 + 3) (.slice A2 P.length c3)
          have HST1 := Lib.hid hst1; have HST2 := Lib.hid hst2; have HR2 := Lib.hid hr2; have HX2 := Lib.hid hx2; have HB2 := Lib.hid hb2
          have HRW := Lib.hid hrow
          clear ho hf hb2 hrow hg hr2 hx2 hst1 hst2 hdn
          go_wp2_with fail
          go_roundw
          case rel =>
            have hfr := Fr.of_grown HST2.out
            have hgw : w.heap.size ≤ g := HF5.out g (by simp [Value.ownBlock])
            refine ⟨j + 1, t' + P.length, done ++ [⟨{ f with body := P }, A2, P.length, c3⟩], by go_num, by go_num, by omega, by omega, ?_, ?_, ?_, ?_, ?_, ?_⟩
            · show (done ++ [_]).length = j + 1
              rw [List.length_append, HDL.out]; rfl
            · show List.map FV.f (done ++ [_]) ++ _ = _
              have h1 := HGB.out
              rw [HFD.out, HZD.out, guessB, HPP.out] at h1
              rw [← h1, List.map_append, List.append_assoc]
              rfl
            · show World.ownsRow _ _ _ _ _ _ _
              have h1 := HST1.out
              rw [HFD.out, List.map_cons, ← HDL.out, flat_put (P := P)] at h1
              rw [HDL.out] at h1
              rw [List.append_assoc]
              exact h1
            · show World.ownsRow _ _ _ _ _ _ _
              exact hfr.own ((Fr.of_below HB2.out).own HO6.out (fun _ _ h => h)) (fun k hk e => own_own_ne HRW.out ((Fr.of_below HB2.out).own HO6.out (fun _ _ h => h)) (by decide) (k := k) (by rw [e]; simp [Value.ownBlock]) hk)
            · show ∀ g', some (⟨g, 0, none⟩ : Addr) = some ⟨g', 0, none⟩ → BodX g' _ _
              intro g' eg
              injection eg with eg
              injection eg with eg
              subst eg
              refine BodX.fr (w := w2) ?_ hfr (fun j hj => by injection hj)
              intro v hv
              rcases List.mem_append.1 hv with h | h
              · obtain ⟨h1, h2⟩ := HBX.out g rfl v h
                exact ⟨h1.same HB2.out, h2⟩
              · simp at h
                subst h
                exact ⟨HR2.out, HX2.out⟩
            · exact (HBL.out.trans (HB2.out.mono HBL.out.size)).setCell (p := ⟨g, j * 4 + 3, none⟩) hgw _
          case measure => simp [intOf]; omega
        · have hji : j = i := by omega
          go_wp2_with fail
          go_ret
          have hfd : fs.drop j = [] := List.drop_of_length_le (by have := HFL.out; omega)
          have hgp : guessP xs = done.map FV.f := by
            have h1 := HGB.out
            rw [hfd, guessB_nil, List.append_nil] at h1
            rw [h1]
            unfold guessP
            rw [HP0.out]
            show (match guessH xs (min C 201) t0 with | r => guessB xs r.1 r.2.1 r.2.2) = _
            rw [HE.out]
          have hgl : (guessP xs).length = i := by rw [hgp, List.length_map, HDL.out, hji]
          have hrow := HO5.out
          rw [hfd, List.map_nil, List.append_nil] at hrow
          obtain ⟨A', c', e, hv⟩ := own_vrd hrow (by omega)
          injection e with e1
          subst e1
          have hbod : Bod wr done := by
            rcases Nat.eq_zero_or_pos i with h0 | h0
            · have : done = [] := List.eq_nil_of_length_eq_zero (by rw [HDL.out]; omega)
              rw [this]
              exact fun v hv => by simp at hv
            · obtain ⟨g, cg, eg, _⟩ := own_cellsN hrow h0
              injection eg with eg1
              exact fun v hv => (HBX.out g eg1 v hv).1
          have hfl := hv.files hbod
          rw [← hgp] at hfl
          unfold GuessPost
          rw [hgl]
          exact ⟨A5, k5, rfl, hfl, HBL.out⟩
end Go.Proofs.YtlgonkopojancaaDoor
