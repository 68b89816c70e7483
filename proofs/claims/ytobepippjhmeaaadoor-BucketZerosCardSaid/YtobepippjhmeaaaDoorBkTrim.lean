/- The walks of bytes.Clone and bytes.TrimRight. -/
import Derived.Test.YtobepippjhmeaaaDoorBkRSize
namespace Go.Proofs.YtobepippjhmeaaaDoor
open Go.RowKit
open Bk

theorem info5 : (Tryd.prog.info? 5).map (fun i => (i.zero, i.size, i.bytes)) = some (some (.int .u8 0), 1, 1) := by kernel_rfl

set_option maxHeartbeats 1000000 in
theorem clone_any (A : Option Addr) (c : Nat) (xs : List Int) (w : World) (hr : Reads w .u8 A xs.length xs) (hbig : xs.length ≤ 140737488355328) :
    Calls Tryd.prog 18 #[.slice A xs.length c] w fun e w' => ∃ A' c', e = .returned (.slice A' xs.length c') ∧ Reads w' .u8 A' xs.length xs ∧ Below w.heap.size w w' := by
  have q22 : ∀ (w : World) (a : Option Addr) (n c n' c' : Nat), (binOp .eql 23 (.slice a n c) (.slice none n' c')).run Tryd.prog w = .ok (.bool a.isNone) w := fun w a n c n' c' => Lib.run_eql_slice_nil w _ _ a n c n' c' Tryd.underlying23
  cases A with
  | none =>
    obtain ⟨_, hx⟩ := hr.none
    subst hx
    clear hr
    go_enter Tryd.func18, Tryd.ntmps18
    go_wp2
    go_ret
    exact ⟨_, _, rfl, Reads.nil _ _ _, Below.refl _ _⟩
  | some a =>
    obtain ⟨i0, hi, hz0, hz1, hz2⟩ := info_parts info5
    have HR := Lib.hid hr; clear hr
    go_enter Tryd.func18, Tryd.ntmps18
    go_wp2_with (at_builtin; refine wpList_append_own_at _ rfl _ _ 23 rfl 0 5 i0 (.int .u8 0) 1 1 Tryd.underlying23 hi hz0 hz1 hz2 rfl (by decide) _ _ _ rfl (World.ownsRow_made w #[] 0 (Nat.zero_le _) (Nat.zero_le _) rfl) a xs.length c (xs.map (Value.int .u8)) rfl ?qc1 ?qc2 ?qc3 ?qc4 ?qc5 ?qc6 ?_)
    case qc1 => simp
    case qc2 =>
      intro j u hj
      have hn : 0 < xs.length := by
        have := (List.getElem?_eq_some_iff.1 hj).1
        simp at this; omega
      have f : Same w (w.alloc (.cells #[] 5)) := (Fr.refl _ _).alloc _
      exact f.cell (HR.out.cells rfl hn j u hj) (fun h => h)
    case qc3 => intro u hu; obtain ⟨x, _, rfl⟩ := List.mem_map.1 hu; rfl
    case qc4 => unfold maxLen; omega
    case qc5 => omega
    case qc6 => simp
    intro v' w1 hown hgrow hnil hloc
    go_wp2
    go_ret
    have hown' : w1.ownsRow 0 5 1 v' xs.length (xs.map (Value.int .u8)) := by simpa using hown
    obtain ⟨A', c', rfl, hr⟩ := own_reads hown'
    refine ⟨A', c', rfl, hr, below_fr ?_⟩
    have f : Same w (w.alloc (.cells #[] 5)) := (Fr.refl _ _).alloc _
    exact f.trans (Fr.of_grown hgrow) (fun _ _ h => h) (fun k hk h => by simp [Value.ownBlock] at h; omega)

set_option maxHeartbeats 1000000 in
theorem trimb_any (A : Option Addr) (c : Nat) (zs : List Int) (w : World) (hr : Reads w .u8 A zs.length zs) (hc : zs.length ≤ c) (hl : zs.length ≤ 1000000) :
    Calls Tryd.prog 19 #[.slice A zs.length c, .int .u8 0] w fun e w' => ∃ t, e = .returned (.slice A t c) ∧ IsTrim zs t ∧ w' = w := by
  have HR := Lib.hid hr; clear hr
  go_enter Tryd.func19, Tryd.ntmps19
  go_wp2
  go_loopw [0] (fun s wr => ∃ k : Nat, s = .slice A k c ∧ k ≤ zs.length ∧ Hid (∀ j, k ≤ j → j < zs.length → zs.getD j 0 = 0) ∧ wr = w) (fun s _ => match s with | .slice _ k _ => k | _ => 0)
  case atStart => exact ⟨_, rfl, Nat.le_refl _, (fun j h1 h2 => absurd h2 (by omega) : ∀ j, zs.length ≤ j → j < zs.length → zs.getD j 0 = 0), rfl⟩
  case round =>
    obtain ⟨k, rfl, hk, HZ, rfl⟩ := hrel
    rcases Nat.eq_zero_or_pos k with rfl | hk0
    · go_wp2
      go_ret
      exact ⟨0, rfl, ⟨Nat.zero_le _, HZ.out, fun h => absurd h (by omega)⟩, rfl⟩
    · obtain ⟨b, o, rfl, hcells⟩ := HR.out.2.2 (by omega)
      obtain ⟨k, rfl⟩ := Nat.exists_eq_add_of_le' hk0
      have ck := hcells k (by omega)
      clear hcells
      generalize hx : zs.getD k 0 = x at *
      have HX := Lib.hid hx; clear hx
      by_cases h0 : x = 0
      · subst h0
        go_wp2
        go_roundw
        case rel =>
          refine ⟨k, by go_num, by omega, ?_, trivial⟩
          intro j h1 h2
          by_cases e : j = k
          · subst e; exact HX.out
          · exact HZ.out j (by omega) h2
        case measure => simp
      · go_wp2
        go_ret
        exact ⟨k + 1, rfl, ⟨hk, HZ.out, fun _ => by rw [Nat.add_sub_cancel, HX.out]; exact h0⟩, rfl⟩

set_option maxRecDepth 20000 in
set_option maxHeartbeats 1000000 in
theorem trim_any (A : Option Addr) (c : Nat) (zs : List Int) (w : World) (hr : Reads w .u8 A zs.length zs) (hc : zs.length ≤ c) (hl : zs.length ≤ 1000000) :
    Calls Tryd.prog 17 #[.slice A zs.length c, .string { data := #[0] }] w fun e w' => ∃ t, e = .returned (.slice A t c) ∧ IsTrim zs t ∧ w' = w := by
  have HC := Lib.hid (trimb_any A c zs w hr hc hl); clear hr
  by_cases h0 : zs.length = 0
  · have hi0 : Hid (IsTrim zs 0) := (⟨Nat.zero_le _, fun j _ h => absurd h (by omega), fun h => absurd h (by omega)⟩ : IsTrim zs 0)
    rw [h0]
    clear HC
    go_enter Tryd.func17, Tryd.ntmps17
    go_wp2
    go_ret
    exact ⟨0, rfl, hi0.out, rfl⟩
  · have h0' : 0 < zs.length := by omega
    go_enter Tryd.func17, Tryd.ntmps17
    go_wp2_with (go_at_call 19; refine HC.out.mono ?_; rintro e w1 ⟨t, rfl, ht, rfl⟩; have HT := Lib.hid ht; clear ht)
    go_ret
    exact ⟨_, rfl, HT.out, rfl⟩
end Go.Proofs.YtobepippjhmeaaaDoor
