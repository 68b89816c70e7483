/- The walk of Unpad. -/
import Derived.Test.YtobepippjhmeaaaDoorBkRPad
namespace Go.Proofs.YtobepippjhmeaaaDoor
open Go.RowKit
open Bk

theorem ue_bad {zs : List Int} {t : Nat} (h : ¬ good zs t) : ux zs t = [] ∧ ue zs t = 170 := by
  unfold ux ue; rw [if_neg h, if_neg h]; exact ⟨rfl, rfl⟩
theorem ue_good {zs : List Int} {t : Nat} (h : good zs t) : ux zs t = zs.take (t - 1) ∧ ue zs t = 0 := by
  unfold ux ue; rw [if_pos h, if_pos h]; exact ⟨rfl, rfl⟩

/-- what an answer of bytes and an error is -/
def Gave (w : World) (xs : List Int) (er : Int) (e : Ending) (w' : World) : Prop :=
  ∃ A c, e = .returned (.tuple #[.slice A xs.length c, .int .i64 er]) ∧ Reads w' .u8 A xs.length xs ∧ Below w.heap.size w w'

theorem gave_bad {w w' : World} {zs : List Int} {t : Nat} (h : ¬ good zs t) (b : Below w.heap.size w w') : Gave w (ux zs t) (ue zs t) (.returned (.tuple #[.slice none 0 0, .int .i64 170])) w' := by
  rw [(ue_bad h).1, (ue_bad h).2]
  exact ⟨none, 0, rfl, Reads.nil _ _ _, b⟩

set_option maxRecDepth 20000 in
set_option maxHeartbeats 1000000 in
theorem unpad_any (A : Option Addr) (c : Nat) (zs : List Int) (t : Nat) (w : World) (hr : Reads w .u8 A zs.length zs) (hc : zs.length ≤ c) (hl : zs.length ≤ 1000000) (ht : IsTrim zs t) :
    Calls Tryd.prog 15 #[.slice A zs.length c] w fun e w' => Gave w (ux zs t) (ue zs t) e w' := by
  have hT : Calls Tryd.prog 17 #[.slice A zs.length c, .string { data := #[0] }] w fun e w' => e = .returned (.slice A t c) ∧ w' = w := by
    refine (trim_any A c zs w hr hc hl).mono ?_
    rintro e w' ⟨u, rfl, hu, rfl⟩
    rw [hu.uniq ht]
    exact ⟨rfl, rfl⟩
  have HT := Lib.hid hT; clear hT
  have htl := ht.le
  have HR := Lib.hid hr; clear hr
  have HTr := Lib.hid ht; clear ht
  obtain ⟨L, hL⟩ : ∃ L, zs.length = L := ⟨_, rfl⟩
  have HL := Lib.hid hL
  rw [hL] at HT htl hc HR hl ⊢
  clear hL
  rcases Nat.eq_zero_or_pos t with rfl | h0
  · have HG := Lib.hid (fun w' b => gave_bad (w := w) (w' := w') (zs := zs) (t := 0) (fun h => absurd h.1 (by omega)) b)
    clear hc hl htl
    go_enter Tryd.func15, Tryd.ntmps15
    go_wp2_with (go_at_call 17; refine HT.out.mono ?_; rintro e w1 ⟨rfl, rfl⟩)
    go_ret2
    exact HG.out _ (Below.refl _ _)
  · obtain ⟨n, rfl⟩ := Nat.exists_eq_add_of_le' h0
    obtain ⟨b, o, rfl, hcells⟩ := HR.out.2.2 (by omega)
    have ck := hcells n (by omega)
    clear hcells
    have hni : (n : Int) ≤ 1000000 := by omega
    have hci : (n : Int) ≤ c := by omega
    have hn0 : ¬ (n : Int) < 0 := by omega
    by_cases hx : zs.getD n 0 = 128
    · rw [hx] at ck
      have HS := Lib.hid (fun w => size_good (n + 1) w (by omega))
      by_cases hs : size (n + 1) = L
      · have hg : good zs (n + 1) := ⟨by omega, by rw [Nat.add_sub_cancel]; exact hx, by rw [HL.out]; exact hs⟩
        rw [(ue_good hg).1, (ue_good hg).2, Nat.add_sub_cancel]
        have hlt : (zs.take n).length = n := by rw [List.length_take, HL.out]; omega
        have htk := HR.out.take n (by omega)
        have HC := Lib.hid (clone_any (some ⟨b, o, none⟩) c (zs.take n) w (by rw [hlt]; exact htk) (by omega))
        clear htk
        rw [hlt] at HC
        have HLT := Lib.hid hlt; clear hlt
        have HX := Lib.hid hx; clear hx
        rw [hs] at HS
        clear hs hg
        have HLL := Lib.hid hl; clear hl
        have hcn : n ≤ c := by omega
        have HCC := Lib.hid hc; clear hc
        have HTL := Lib.hid htl; clear htl
        go_enter Tryd.func15, Tryd.ntmps15
        go_wp2_with (first
          | (go_at_call 17; refine HT.out.mono ?_; rintro e w1 ⟨rfl, rfl⟩)
          | (go_at_call 11; refine (HS.out _).mono ?_; rintro e w2 ⟨rfl, rfl⟩)
          | (go_at_call 18; refine HC.out.mono ?_; rintro e w3 ⟨A', c', rfl, h1, h2⟩; have H1 := Lib.hid h1; have H2 := Lib.hid h2; clear h1 h2))
        go_ret2
        refine ⟨A', c', ?_, by rw [HLT.out]; exact H1.out, H2.out⟩
        rw [HLT.out]; rfl
      · have hg : ¬ good zs (n + 1) := fun h => hs (by have := h.2.2; rw [HL.out] at this; exact this)
        have HG := Lib.hid (fun w' b => gave_bad (w := w) (w' := w') hg b)
        have hne : ¬ ((size (n + 1) : Int) = (L : Int)) := by omega
        generalize size (n + 1) = sz at *
        have hnb : ((sz : Int) != (L : Int)) = true := by rw [bne_iff_ne]; exact hne
        have HLL := Lib.hid hl; clear hl
        have HCC := Lib.hid hc; clear hc
        have HTL := Lib.hid htl; clear htl
        clear hs hg hx
        go_enter Tryd.func15, Tryd.ntmps15
        go_wp2_with (first
          | (go_at_call 17; refine HT.out.mono ?_; rintro e w1 ⟨rfl, rfl⟩)
          | (go_at_call 11; refine (HS.out _).mono ?_; rintro e w2 ⟨rfl, rfl⟩))
        go_ret2
        exact HG.out _ (Below.refl _ _)
    · have hg : ¬ good zs (n + 1) := fun h => hx (by have := h.2.1; rw [Nat.add_sub_cancel] at this; exact this)
      have HG := Lib.hid (fun w' b => gave_bad (w := w) (w' := w') hg b)
      have HLL := Lib.hid hl; clear hl
      have HCC := Lib.hid hc; clear hc
      have HTL := Lib.hid htl; clear htl
      generalize zs.getD n 0 = x at *
      have hxb : (x != 128) = true := by rw [bne_iff_ne]; exact hx
      clear hg
      go_enter Tryd.func15, Tryd.ntmps15
      go_wp2_with (go_at_call 17; refine HT.out.mono ?_; rintro e w1 ⟨rfl, rfl⟩)
      go_ret2
      exact HG.out _ (Below.refl _ _)
end Go.Proofs.YtobepippjhmeaaaDoor
