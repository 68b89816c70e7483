/- The walk of awake. -/
import Derived.Test.YtlgonkopojancaaDoorFxNameL
import Derived.Test.YtlgonkopojancaaDoorFxOne
import Derived.Lib.SlBytesConst
namespace Go.Proofs.YtlgonkopojancaaDoor
open Go.RowKit

def f0 : Fi := ⟨⟨#[97]⟩, 420, -1, [120, 121]⟩
theorem name_a : nameB ⟨#[97]⟩ = true := by rw [name_L]; decide
theorem name_ab : nameB ⟨#[97, 47, 98]⟩ = true := by rw [name_L]; decide
theorem name_up : nameB ⟨#[46, 46, 47, 98]⟩ = false := by rw [name_L]; decide
theorem check_f0 : checkI [f0] = 0 := by
  have h : namesOk [] [f0] = true := by
    unfold namesOk namesOk f0
    rw [name_a]
    rfl
  unfold checkI
  rw [h]
  decide
theorem enc_f0 : encB [f0] = [1, 1, 97, 164, 3, 1, 2, 120, 121] := by
  have n1 : numb 1 = [1] := numb_small (by decide)
  have n2 : numb 2 = [2] := numb_small (by decide)
  have n3 : numb 3 = [3] := numb_small (by decide)
  have n420 : numb 420 = [164, 3] := by rw [numb_big (by decide)]; exact congrArg _ n3
  have h0 : numb (zig (-1)) = [1] := n1
  have h1 : headB f0 = [1] ++ [97] ++ [164, 3] ++ [1] ++ [2] := by
    show numb 1 ++ [97] ++ numb 420 ++ numb (zig (-1)) ++ numb 2 = _
    rw [n1, n420, h0, n2]
  unfold encB headsB bodiesB
  show numb 1 ++ (headB f0 ++ []) ++ ([120, 121] ++ []) = _
  rw [n1, h1]
  rfl
theorem fenc_f0 : FEnc f0 := ⟨⟨by decide, by decide, by decide, by intro x hx; simp [f0] at hx; omega⟩, by decide, by decide, by decide⟩
theorem dec_f0 : decP [1, 1, 97, 164, 3, 1, 2, 120, 121] = some [f0] := by
  have := decP_enc (fs := [f0]) (ys := []) (fun f hf => by simp at hf; subst hf; exact fenc_f0) (by decide) bts_nil
  rw [List.append_nil, enc_f0, if_pos ⟨rfl, adj_true (fun j hj => by simp at hj), check_f0⟩] at this
  exact this
theorem dec_more : decP [1, 1, 97, 164, 3, 1, 2, 120, 121, 0] = none := by
  have := decP_enc (fs := [f0]) (ys := [0]) (fun f hf => by simp at hf; subst hf; exact fenc_f0) (by decide) (by intro x hx; simp at hx; omega)
  rw [enc_f0, if_neg (by simp)] at this
  exact this
theorem own_cap {w : World} {base n c : Nat} {e : TypeId} {sz : Nat} {A : Option Addr} {xs : List Value} (h : w.ownsRow base e sz (.slice A n c) n xs) : n ≤ c ∧ c ≤ 9223372036854775807 := by
  rcases h.2 with ⟨h1, h2⟩ | ⟨g, cap, cur, h1, _, hh, hc, hm, hs, ht⟩
  · injection h1 with h1 h3 h4
    exact ⟨by omega, by omega⟩
  · injection h1 with h1 h3 h4
    unfold maxLen at hm
    exact ⟨by omega, by omega⟩
theorem lit_reads (w : World) (xs : List Int) (n : Nat) (fr : Nat × Nat) (hn : xs.length = n) (h63 : n ≤ 9223372036854775807) : Reads (w.alloc (.cells (bts xs).toArray 5 fr)) .u8 (some ⟨w.heap.size, 0, none⟩) n xs := by
  refine ⟨hn, h63, fun _ => ⟨w.heap.size, 0, rfl, fun j hj => ?_⟩⟩
  rw [Nat.zero_add, cell_of_row _ _ _ _ _ _ (blk_new w _)]
  unfold bts
  simp [List.getD_eq_getElem?_getD, List.getElem?_eq_getElem (show j < xs.length by omega)]

def e0 : List Int := [1, 1, 97, 164, 3, 1, 2, 120, 121]
theorem e0_bts : Bts e0 := by intro x hx; simp [e0] at hx; omega
theorem e1_bts : Bts (e0 ++ [0]) := by intro x hx; simp [e0] at hx; omega
theorem decoded_rd {B : Nat} {w : World} {v : Value} {vs : List FV} {gs : List Fi} {n : Nat} (h63 : n ≤ 9223372036854775807) (hvs : vs.map FV.f = gs) (ho : w.ownsRow 0 33 4 v n (flat vs)) (hb : BodO B w vs) : ∃ A c, v = .slice A n c ∧ FRd w A n gs := by
  obtain ⟨A, c, e, hv⟩ := own_vrd ho h63
  exact ⟨A, c, e, hvs ▸ hv.files (bodO_bod hb)⟩

set_option maxRecDepth 20000 in
set_option maxHeartbeats 4000000 in
theorem awake_any (m : Int) (w : World) (hm : w.cell? ⟨0, 0, none⟩ = some (.int .i64 m)) : Calls Tryd.prog 11 #[] w fun e w' => e = .returned (.bool true) ∧ Below w.heap.size w w' := by
  have HM := Lib.hid hm
  have hpos : 0 < w.heap.size := World.block_lt_of_cell? w _ hm
  have HP := Lib.hid hpos
  clear hm hpos
  have kc := fun (w : World) (C : Array Value) (n c : Nat) => Lib.run_convert_bytes_const (P := Tryd.prog) w 25 5 C n c Tryd.underlying25 Tryd.underlying5
  go_enter Tryd.func11, Tryd.ntmps11
  go_wp2_with fail
  obtain ⟨h, hh⟩ : ∃ h, w.heap.size = h := ⟨_, rfl⟩
  obtain ⟨W1, hW1⟩ : ∃ W, (w.alloc (.cells #[.int .u8 120, .int .u8 121] 5 (2, 3))).alloc (.cells #[.string ⟨#[97]⟩, .int .u32 420, .int .i64 (-1), .slice (some ⟨h, 0, none⟩) 2 2] 33) = W := ⟨_, rfl⟩
  have hS : Same w W1 := by rw [← hW1]; exact ((Fr.refl _ w).alloc _).alloc _
  have hr : Reads W1 .u8 (some ⟨h, 0, none⟩) 2 [120, 121] := by
    have := lit_reads w [120, 121] 2 (2, 3) rfl (by decide)
    rw [hh] at this
    rw [← hW1]
    exact this.same ((Below.refl _ _).alloc (Nat.le_refl _) _)
  have hb1 : W1.heap[h + 1]? = some (.cells #[.string ⟨#[97]⟩, .int .u32 420, .int .i64 (-1), .slice (some ⟨h, 0, none⟩) 2 2] 33 (0, 0)) := by
    have := blk_new (w.alloc (.cells #[.int .u8 120, .int .u8 121] 5 (2, 3))) (.cells #[.string ⟨#[97]⟩, .int .u32 420, .int .i64 (-1), .slice (some ⟨h, 0, none⟩) 2 2] 33)
    rw [hW1, World.size_alloc, hh] at this
    exact this
  have hrd : FRd W1 (some ⟨h + 1, 0, none⟩) 1 [f0] := by
    refine ⟨rfl, by decide, fun _ => ⟨h + 1, 0, rfl, fun j hj => ?_⟩⟩
    obtain rfl : j = 0 := by omega
    exact ⟨some ⟨h, 0, none⟩, 2, 2, by rw [blk_cell hb1]; rfl, by rw [blk_cell hb1]; rfl, by rw [blk_cell hb1]; rfl, by rw [blk_cell hb1]; rfl, hr⟩
  have HRD := Lib.hid hrd
  have HH := Lib.hid hh
  have HB1 := Lib.hid (below_fr hS)
  have HM1 := Lib.hid (hS.cell HM.out (fun e => e))
  rw [hh] at HB1
  rw [hh, hW1]
  clear hS hr hb1 hrd hW1
  refine (encode_any [f0] _ 1 1 m W1 HM1.out HRD.out (by decide) (fun _ => stableCalls_one) (fun f hf => by simp at hf; subst hf; exact fenc_f0.ok) (fun f hf => by simp at hf; subst hf; decide) (fun f hf => by simp at hf; subst hf; decide)).mono ?_
  rintro e w2 ⟨⟨_, hp⟩, hb2⟩
  obtain ⟨v, gs, rfl, hst, ho, hf⟩ := hp check_f0
  have hgs : gs = [f0] := stable_unique hst (stable_short _ _ (by decide))
  subst hgs
  have he0 : encB [f0] = e0 := enc_f0
  rw [he0] at ho
  obtain ⟨A2, c2, rfl, hr2⟩ := own_reads ho
  have hc2 := own_cap ho
  have HR2 := Lib.hid hr2; have HC2 := Lib.hid hc2
  have HB2 : Hid (Below h w w2) := HB1.out.trans (hb2.mono (by have := HB1.out.size; have := HH.out; omega))
  have HRD2 := Lib.hid (HRD.out.same hb2)
  have HM2 := Lib.hid ((hb2.cell (p := ⟨0, 0, none⟩) (by have := HB1.out.size; have := HP.out; show 0 < W1.heap.size; omega)).trans HM1.out)
  clear hp hst ho hf hr2 hc2 hb2 he0
  go_wp2_with fail
  refine (dec_any A2 9 c2 e0 m w2 HM2.out HR2.out HC2.out.1 HC2.out.2 e0_bts (by decide)).mono ?_
  rintro e w3 ⟨hp, hb3⟩
  unfold DecPost at hp
  rw [show decP e0 = some [f0] from dec_f0] at hp
  obtain ⟨v4, vs4, rfl, hvs, ho4, _, hbo4⟩ := hp
  obtain ⟨A4, c4, rfl, hrd4⟩ := decoded_rd (by decide) hvs ho4 hbo4
  have HR3 := Lib.hid (HR2.out.same hb3); have HRD3 := Lib.hid (HRD2.out.same hb3); have HG3 := Lib.hid hrd4
  have HB3 : Hid (Below h w w3) := HB2.out.trans (hb3.mono (by have := HB2.out.size; have := HH.out; omega))
  have HM3 := Lib.hid ((hb3.cell (p := ⟨0, 0, none⟩) (by have := HB2.out.size; have := HP.out; show 0 < w2.heap.size; omega)).trans HM2.out)
  have HLIT := Lib.hid (World.ownsRow_lit (base := 0) (e := 5) (size := 1) w3 #[] 0 (Nat.zero_le _) (by decide) rfl)
  have HLS : Hid (Same w3 (w3.alloc (.cells #[] 5))) := (Fr.refl _ w3).alloc _
  obtain ⟨i5, hi, hz0, hz1, hz2⟩ := info_parts info5
  have hi5 := And.intro hi (And.intro hz0 (And.intro hz1 hz2))
  have HI5 := Lib.hid hi5; clear hi hz0 hz1 hz2 hi5
  clear hvs ho4 hbo4 hrd4 hb3
  go_wp2_with (first
    | (at_builtin; refine wpList_append_reads rfl (.tmp 28) (.tmp 29) 25 5 rfl Tryd.underlying25 info5 (.slice (some ⟨w3.heap.size, 0, none⟩) 0 0) 0 9 c2 A2 [] e0 rfl rfl HLIT.out (HR3.out.all HLS.out (fun _ h => h)) (by omega) ?_; intro v5 w5 hown hfr hloc; have O5 := Lib.hid hown; have G5 := Lib.hid (Grew.mk hfr (hloc.imp id (fun h => ⟨_, h, Nat.le_refl _⟩))); clear hown hfr hloc)
    | (at_builtin; refine wpList_append_one rfl (.tmp 30) (.tmp 31) 25 rfl i5 (.int .u8 0) 1 Tryd.underlying25 HI5.out.1 HI5.out.2.1 HI5.out.2.2.1 HI5.out.2.2.2 rfl v5 9 ([] ++ e0.map (Value.int .u8)) rfl rfl O5.out rfl (by decide) (by decide) ?_; intro v6 w6 hown hfr hloc; have O6 := Lib.hid hown; have G6 := Lib.hid (Grew.mk hfr hloc); clear hown hfr hloc))
  have hown6 : w6.ownsRow 0 5 1 v6 10 (bts (e0 ++ [0])) := O6.out
  obtain ⟨A6, c6, rfl, hr6⟩ := own_reads hown6
  have hc6 := own_cap hown6
  have hS6 : Below w3.heap.size w3 w6 := ((below_fr HLS.out).trans (G5.out.fr.below _ (by simp) (fun k hk e => by simp [Value.ownBlock] at e; omega))).trans (G6.out.below (v := v5) (B := w3.heap.size) (by
    intro j hj
    rcases G5.out.loc with l | ⟨i, l, hi⟩
    · rw [l] at hj; simp [Value.ownBlock] at hj; omega
    · rw [l] at hj; simp at hj hi; omega) (by have := G5.out.fr.size; simp at this; omega))
  have HR6 := Lib.hid hr6; have HC6 := Lib.hid hc6
  have HRD6 := Lib.hid (HRD3.out.same hS6); have HG6 := Lib.hid (HG3.out.same hS6); have HRB6 := Lib.hid (HR3.out.same hS6)
  have HB6 : Hid (Below h w w6) := HB3.out.trans (hS6.mono (by have := HB3.out.size; have := HH.out; omega))
  have HM6 := Lib.hid ((hS6.cell (p := ⟨0, 0, none⟩) (by have := HB3.out.size; have := HP.out; show 0 < w3.heap.size; omega)).trans HM3.out)
  clear hown6 hr6 hc6 hS6
  refine (dec_any A6 10 c6 (e0 ++ [0]) m w6 HM6.out HR6.out HC6.out.1 HC6.out.2 e1_bts (by decide)).mono ?_
  rintro e w7 ⟨hp, hb7⟩
  unfold DecPost at hp
  rw [show decP (e0 ++ [0]) = none from dec_more] at hp
  have hp : e = .returned (.tuple #[.slice none 0 0, .int .i64 162]) := hp
  subst hp
  have HRD7 := Lib.hid (HRD6.out.same hb7); have HG7 := Lib.hid (HG6.out.same hb7); have HRB7 := Lib.hid (HRB6.out.same hb7)
  have HB7 : Hid (Below h w w7) := HB6.out.trans (hb7.mono (by have := HB6.out.size; have := HH.out; omega))
  have HM7 := Lib.hid ((hb7.cell (p := ⟨0, 0, none⟩) (by have := HB6.out.size; have := HP.out; show 0 < w6.heap.size; omega)).trans HM6.out)
  clear hb7
  go_wp2_with fail
  refine (find_any [f0] _ 1 1 ⟨#[97]⟩ w7 HRD7.out (fun f hf => by simp at hf; subst hf; decide)).mono ?_
  rintro e w8 ⟨hp, hb8⟩
  have hp : ∃ A n c, e = .returned (.tuple #[fval f0 A n c, .bool true]) ∧ Reads w8 .u8 A n f0.body := hp
  obtain ⟨A8, n8, c8, rfl, hr8⟩ := hp
  have HRD8 := Lib.hid (HRD7.out.same hb8); have HG8 := Lib.hid (HG7.out.same hb8); have HRB8 := Lib.hid (HRB7.out.same hb8)
  have HB8 : Hid (Below h w w8) := HB7.out.trans (hb8.mono (by have := HB7.out.size; have := HH.out; omega))
  have HM8 := Lib.hid ((hb8.cell (p := ⟨0, 0, none⟩) (by have := HB7.out.size; have := HP.out; show 0 < w7.heap.size; omega)).trans HM7.out)
  clear hb8 hr8
  unfold fval f0
  dsimp only
  go_wp2_with fail
  obtain ⟨hx, hhx⟩ : ∃ h, w8.heap.size = h := ⟨_, rfl⟩
  obtain ⟨W9, hW9⟩ : ∃ W, w8.alloc (.cells #[.string ⟨#[97]⟩, .int .u32 420, .int .i64 (-1), .slice A8 n8 c8] 33) = W := ⟨_, rfl⟩
  have hS9 : Same w8 W9 := by rw [← hW9]; exact (Fr.refl _ _).alloc _
  have hbx : W9.heap[hx]? = some (.cells #[.string ⟨#[97]⟩, .int .u32 420, .int .i64 (-1), .slice A8 n8 c8] 33 (0, 0)) := by rw [← hW9, ← hhx]; exact blk_new _ _
  have hb9 := below_fr hS9
  have HRD9 := Lib.hid (HRD8.out.same hb9); have HG9 := Lib.hid (HG8.out.same hb9); have HRB9 := Lib.hid (HRB8.out.same hb9)
  have HB9 : Hid (Below h w W9) := HB8.out.trans (hb9.mono (by have := HB8.out.size; have := HH.out; omega))
  have HM9 := Lib.hid ((hb9.cell (p := ⟨0, 0, none⟩) (by have := HB8.out.size; have := HP.out; show 0 < w8.heap.size; omega)).trans HM8.out)
  have HBX := Lib.hid hbx
  rw [hhx, hW9]
  clear hS9 hbx hb9 hhx hW9
  refine (find_any [f0] _ 1 1 ⟨#[98]⟩ W9 HRD9.out (fun f hf => by simp at hf; subst hf; decide)).mono ?_
  rintro e w10 ⟨hp, hb10⟩
  have hp : e = .returned (.tuple #[.agg #[.string ⟨#[]⟩, .int .u32 0, .int .i64 0, .slice none 0 0], .bool false]) := hp
  subst hp
  obtain ⟨W11, hW11⟩ : ∃ W, w10.alloc (.cells #[.string ⟨#[]⟩, .int .u32 0, .int .i64 0, .slice none 0 0] 33) = W := ⟨_, rfl⟩
  have hS11 : Same w10 W11 := by rw [← hW11]; exact (Fr.refl _ _).alloc _
  have hb11 : Below W9.heap.size W9 W11 := hb10.trans ((below_fr hS11).mono hb10.size)
  have HRD11 := Lib.hid (HRD9.out.same hb11); have HG11 := Lib.hid (HG9.out.same hb11); have HRB11 := Lib.hid (HRB9.out.same hb11)
  have HB11 : Hid (Below h w W11) := HB9.out.trans (hb11.mono (by have := HB9.out.size; have := HH.out; omega))
  have HM11 := Lib.hid ((hb11.cell (p := ⟨0, 0, none⟩) (by have := HB9.out.size; have := HP.out; show 0 < W9.heap.size; omega)).trans HM9.out)
  have HBX11 := Lib.hid ((hb11.block hx (blk_lt HBX.out)).trans HBX.out)
  have HE11 := Lib.hid hW11
  clear hS11 hb11 hb10 hW11
  go_wp2_with fail
  rw [HE11.out]
  refine (same_any [f0] [f0] _ 1 1 A4 1 c4 W11 HRD11.out HG11.out (fun f hf => by simp at hf; subst hf; exact fenc_f0.ok.body) (fun f hf => by simp at hf; subst hf; exact fenc_f0.ok.body)).mono ?_
  rintro e w12 ⟨he, hb12⟩
  rw [show decide ([f0] = [f0]) = true from decide_eq_true rfl] at he
  subst he
  have HRD12 := Lib.hid (HRD11.out.same hb12)
  have hrb12 := HRB11.out.same hb12
  have HB12 : Hid (Below h w w12) := HB11.out.trans (hb12.mono (by have := HB11.out.size; have := HH.out; omega))
  have HM12 := Lib.hid ((hb12.cell (p := ⟨0, 0, none⟩) (by have := HB11.out.size; have := HP.out; show 0 < W11.heap.size; omega)).trans HM11.out)
  have hbx12 := (hb12.block hx (blk_lt HBX11.out)).trans HBX11.out
  have q1 := conv_reads (c := c2) hrb12
  have q2 := conv_reads (c := 9) (lit_reads w12 e0 9 (0, 0) rfl (by decide))
  have q2 : (convert 25 9 (.slice (some ⟨w12.heap.size, 0, none⟩) 9 9)).run Tryd.prog (w12.alloc (.cells #[.int .u8 1, .int .u8 1, .int .u8 97, .int .u8 164, .int .u8 3, .int .u8 1, .int .u8 2, .int .u8 120, .int .u8 121] 5)) = .ok (.string (strOf e0)) (w12.alloc (.cells #[.int .u8 1, .int .u8 1, .int .u8 97, .int .u8 164, .int .u8 3, .int .u8 1, .int .u8 2, .int .u8 120, .int .u8 121] 5)) := q2
  obtain ⟨W13, hW13⟩ : ∃ W, w12.alloc (.cells #[.int .u8 1, .int .u8 1, .int .u8 97, .int .u8 164, .int .u8 3, .int .u8 1, .int .u8 2, .int .u8 120, .int .u8 121] 5) = W := ⟨_, rfl⟩
  have hb13 : Below w12.heap.size w12 W13 := by rw [← hW13]; exact (Below.refl _ _).alloc (Nat.le_refl _) _
  have HRD13 := Lib.hid (HRD12.out.same hb13)
  have HB13 : Hid (Below h w W13) := HB12.out.trans (hb13.mono (by have := HB12.out.size; have := HH.out; omega))
  have HM13 := Lib.hid ((hb13.cell (p := ⟨0, 0, none⟩) (by have := HB12.out.size; have := HP.out; show 0 < w12.heap.size; omega)).trans HM12.out)
  have hbx13 := (hb13.block hx (blk_lt hbx12)).trans hbx12
  have k1 : W13.cell? ⟨hx, 1, none⟩ = some (.int .u32 420) := by rw [blk_cell hbx13]; rfl
  rw [← hW13] at k1
  have HE13 := Lib.hid hW13
  clear hb12 hbx12 hrb12 hW13 hb13 hbx13
  go_wp2_with fail
  rw [HE13.out]
  refine (name_any ⟨#[97, 47, 98]⟩ m W13 HM13.out (by decide)).mono ?_
  rintro e w14 ⟨he, hb14⟩
  rw [name_ab] at he
  subst he
  have HRD14 := Lib.hid (HRD13.out.same hb14)
  have HB14 : Hid (Below h w w14) := HB13.out.trans (hb14.mono (by have := HB13.out.size; have := HH.out; omega))
  have HM14 := Lib.hid ((hb14.cell (p := ⟨0, 0, none⟩) (by have := HB13.out.size; have := HP.out; show 0 < W13.heap.size; omega)).trans HM13.out)
  clear hb14 k1 q1 q2
  go_wp2_with fail
  refine (name_any ⟨#[46, 46, 47, 98]⟩ m w14 HM14.out (by decide)).mono ?_
  rintro e w15 ⟨he, hb15⟩
  rw [name_up] at he
  subst he
  have HRD15 := Lib.hid (HRD14.out.same hb15)
  have HB15 : Hid (Below h w w15) := HB14.out.trans (hb15.mono (by have := HB14.out.size; have := HH.out; omega))
  have HM15 := Lib.hid ((hb15.cell (p := ⟨0, 0, none⟩) (by have := HB14.out.size; have := HP.out; show 0 < w14.heap.size; omega)).trans HM14.out)
  clear hb15
  go_wp2_with fail
  refine (list_any [f0] _ 1 1 w15 HRD15.out (by decide)).mono ?_
  rintro e w16 ⟨v16, rfl, ho16, _, hb16⟩
  obtain ⟨A16, c16, rfl⟩ := own_shape ho16
  have HRD16 := Lib.hid (HRD15.out.same hb16)
  have HB16 : Hid (Below h w w16) := HB15.out.trans (hb16.mono (by have := HB15.out.size; have := HH.out; omega))
  have HM16 := Lib.hid ((hb16.cell (p := ⟨0, 0, none⟩) (by have := HB15.out.size; have := HP.out; show 0 < w15.heap.size; omega)).trans HM15.out)
  clear hb16 ho16
  go_wp2_with fail
  refine (sort_one [f0] _ 1 w16 HRD16.out (fun f hf => by simp at hf; subst hf; decide)).mono ?_
  rintro e w17 ⟨v17, vs17, rfl, ho17, _, hb17, _⟩
  obtain ⟨A17, c17, rfl⟩ := own_shape ho17
  have HRD17 := Lib.hid (HRD16.out.same hb17)
  have HB17 : Hid (Below h w w17) := HB16.out.trans (hb17.mono (by have := HB16.out.size; have := HH.out; omega))
  have HM17 := Lib.hid ((hb17.cell (p := ⟨0, 0, none⟩) (by have := HB16.out.size; have := HP.out; show 0 < w16.heap.size; omega)).trans HM16.out)
  clear hb17 ho17
  go_wp2_with fail
  refine (check_any [f0] _ 1 1 m w17 HM17.out HRD17.out (by decide) (fun f hf => by simp at hf; subst hf; decide) (fun f hf => by simp at hf; subst hf; decide)).mono ?_
  rintro e w18 ⟨he, hb18⟩
  rw [check_f0] at he
  subst he
  have HB18 : Hid (Below h w w18) := HB17.out.trans (hb18.mono (by have := HB17.out.size; have := HH.out; omega))
  clear hb18
  go_wp2_with fail
  go_ret
  rw [HH.out]
  exact ⟨rfl, HB18.out⟩
end Go.Proofs.YtlgonkopojancaaDoor
