/- The walk of number. -/
import Derived.Test.YtlgonkopojancaaDoorFxMem
namespace Go.Proofs.YtlgonkopojancaaDoor
open Go.RowKit

/-- a number, seven bits a byte -/
def numb (n : Nat) : List Int := if n < 128 then [(n : Int)] else ((n % 128 + 128 : Nat) : Int) :: numb (n / 128)
termination_by n
decreasing_by omega
theorem numb_small {n : Nat} (h : n < 128) : numb n = [(n : Int)] := by rw [numb, if_pos h]
theorem numb_big {n : Nat} (h : ¬ n < 128) : numb n = ((n % 128 + 128 : Nat) : Int) :: numb (n / 128) := by rw [numb, if_neg h]
theorem numb_len : ∀ (k n : Nat), n < 128 ^ (k + 1) → (numb n).length ≤ k + 1
  | 0, n, h => by rw [numb_small (by simpa using h)]; simp
  | k + 1, n, h => by
    by_cases h1 : n < 128
    · rw [numb_small h1]; simp
    · rw [numb_big h1, List.length_cons]
      have := numb_len k (n / 128) (by rw [Nat.div_lt_iff_lt_mul (by decide), ← Nat.pow_succ]; exact h)
      omega
theorem numb_bts (n : Nat) : Bts (numb n) := by
  induction n using Nat.strongRecOn with
  | ind n ih =>
    by_cases h : n < 128
    · rw [numb_small h]; intro x hx; simp at hx; omega
    · rw [numb_big h]
      intro x hx
      rcases List.mem_cons.1 hx with rfl | hx
      · omega
      · exact ih (n / 128) (by omega) x hx
theorem numb_pos (n : Nat) : 0 < (numb n).length := by
  by_cases h : n < 128
  · rw [numb_small h]; simp
  · rw [numb_big h]; simp

/-- a row of the call's own has grown -/
structure Grew (v v' : Value) (w w' : World) : Prop where
  fr : Fr (fun k => some k = v.ownBlock) w w'
  loc : v'.ownBlock = v.ownBlock ∨ ∃ j, v'.ownBlock = some j ∧ w.heap.size ≤ j
theorem Grew.refl (v : Value) (w : World) : Grew v v w w := ⟨Fr.refl _ _, .inl rfl⟩
theorem Grew.trans {v v1 v2 : Value} {w w1 w2 : World} (h : Grew v v1 w w1) (g : Grew v1 v2 w1 w2) : Grew v v2 w w2 := by
  refine ⟨h.fr.trans g.fr (fun _ _ e => e) (fun k hk e => ?_), ?_⟩
  · rcases h.loc with l | ⟨j, l, hj⟩
    · rw [← l]; exact e
    · rw [l] at e; injection e with e; omega
  · rcases g.loc with l | ⟨j, l, hj⟩
    · rw [l]; exact h.loc
    · exact .inr ⟨j, l, Nat.le_trans h.fr.size hj⟩
theorem Grew.pre {v v1 : Value} {w w0 w1 : World} (s : Same w w0) (g : Grew v v1 w0 w1) : Grew v v1 w w1 :=
  ⟨s.trans g.fr (fun _ _ e => e.elim) (fun _ _ e => e), g.loc.imp id fun ⟨j, l, hj⟩ => ⟨j, l, Nat.le_trans s.size hj⟩⟩
theorem Grew.post {v v1 : Value} {w w1 w2 : World} (g : Grew v v1 w w1) (s : Same w1 w2) : Grew v v1 w w2 :=
  ⟨g.fr.trans s (fun _ _ e => e) (fun _ _ e => e.elim), g.loc⟩

def bts (L : List Int) : List Value := L.map (Value.int .u8)

set_option maxRecDepth 100000 in
theorem or128' : ∀ k : Fin 256, bits BinOp.or .u8 ((k.val : Nat) : Int) 128 = ((k.val % 128 + 128 : Nat) : Int) := by decide
theorem or128 (m : Nat) : bits BinOp.or .u8 ((m : Int) % 256) 128 = ((m % 128 + 128 : Nat) : Int) := by
  have := or128' ⟨m % 256, Nat.mod_lt _ (by decide)⟩
  simp only at this
  rw [show ((m : Int) % 256) = ((m % 256 : Nat) : Int) by omega, this]
  congr 2
  omega

def NumJ (v0 : Value) (L : List Int) (N : Nat) (w0 : World) (a : Act) (w : World) : Prop :=
  ∃ (u : Nat → Value) (v : Value) (m : Nat) (pre : List Int), a = { tmps := #[v, .int .u64 m, undef, undef, .slice none 0 0, u 5, u 6, u 7, u 8, u 9, u 10, u 11, u 12, u 13, u 14, u 15, u 16, u 17, u 18, u 19], defers := [] } ∧ Hid (pre ++ numb m = numb N) ∧ m ≤ N ∧
    Hid (w.ownsRow 0 5 1 v (L ++ pre).length (bts (L ++ pre))) ∧ Hid (Grew v0 v w0 w)
theorem numJ_act {v0 v : Value} {L pre : List Int} {N m : Nat} {w0 w : World} {q : Int} {u5 u6 u7 u8 u9 u10 u11 u12 u13 u14 u15 u16 u17 u18 u19 : Value} (hq : q = (m : Int)) (he : pre ++ numb m = numb N) (hm : m ≤ N) (ho : w.ownsRow 0 5 1 v (L ++ pre).length (bts (L ++ pre))) (hg : Grew v0 v w0 w) :
    NumJ v0 L N w0 { tmps := #[v, .int .u64 q, undef, undef, .slice none 0 0, u5, u6, u7, u8, u9, u10, u11, u12, u13, u14, u15, u16, u17, u18, u19], defers := [] } w :=
  ⟨fun i => #[undef, undef, undef, undef, undef, u5, u6, u7, u8, u9, u10, u11, u12, u13, u14, u15, u16, u17, u18, u19].getD i undef, v, m, pre, by rw [hq]; rfl, he, hm, ho, hg⟩
def NumMu (a : Act) (_ : World) : Nat := (intOf (a.tmps.getD 1 undef)).toNat

set_option maxRecDepth 20000 in
set_option maxHeartbeats 1000000 in
theorem number_any (v : Value) (L : List Int) (N : Nat) (w : World) (hN : N < 18446744073709551616) (ho : w.ownsRow 0 5 1 v L.length (bts L)) (hn : L.length ≤ 1000000000) :
    Calls Tryd.prog 29 #[v, .int .u64 N] w fun e w' => ∃ v', e = .returned v' ∧ w'.ownsRow 0 5 1 v' (L ++ numb N).length (bts (L ++ numb N)) ∧ Grew v v' w w' := by
  have HO := Lib.hid ho; clear ho
  have HL : Hid ((numb N).length ≤ 10) := numb_len 9 N (by omega)
  go_enter Tryd.func29, Tryd.ntmps29
  go_wp2
  refine wp_scope_loop 0 (NumJ v L N w) NumMu rfl ?pass ?first
  case first =>
    intro hp
    have HP := Lib.hid hp; clear hp
    go_wp2
    go_step3
    simp only [Exit.then]
    rename_i hK
    refine hK _ _ (HP.out _ _ ?_)
    exact numJ_act (pre := []) rfl rfl (Nat.le_refl _) (by simpa using HO.out) (Grew.refl _ _)
  case pass =>
    rintro a w1 ⟨u, v1, m, pre, rfl, HE, hm, HO1, HG⟩
    obtain ⟨i5, hi, hz0, hz1, hz2⟩ := info_parts info5
    have hi5 := And.intro hi (And.intro hz0 (And.intro hz1 hz2))
    have HI5 := Lib.hid hi5; clear hi hz0 hz1 hz2 hi5
    have hlen : pre.length + (numb m).length ≤ 10 := by rw [← List.length_append, HE.out]; exact HL.out
    have hpos := numb_pos m
    have hbt : ((L ++ pre).length + 1) * 1 ≤ 140737488355328 := by rw [List.length_append]; omega
    have HBT := Lib.hid hbt
    clear hbt
    obtain ⟨ln, hln⟩ : ∃ ln, (L ++ pre).length = ln := ⟨_, rfl⟩
    rw [hln] at HO1 HBT
    have HLN := Lib.hid hln; clear hln
    obtain ⟨A1, k1, hv1⟩ := own_shape HO1.out
    subst hv1
    by_cases h8 : (128 : Int) ≤ m
    · go_wp2_with (at_builtin; refine wpList_append_one rfl (.tmp 7) (.tmp 11) 25 rfl i5 (.int .u8 0) 1 Tryd.underlying25 HI5.out.1 HI5.out.2.1 HI5.out.2.2.1 HI5.out.2.2.2 rfl (.slice A1 ln k1) ln (bts (L ++ pre)) rfl rfl HO1.out rfl (by decide) HBT.out ?_; intro v4 w4 hown hfr hloc; have O4 := Lib.hid hown; have F4 := Lib.hid hfr; have L4 := Lib.hid hloc; clear hown hfr hloc)
      go_step3
      have o4 := O4.out
      rw [or128 m] at o4
      have hb : ¬ m < 128 := by omega
      have he : pre ++ [((m % 128 + 128 : Nat) : Int)] ++ numb (m / 128) = numb N := by rw [← HE.out, numb_big hb]; simp
      have e2 : bts (L ++ pre) ++ [Value.int .u8 ((m % 128 + 128 : Nat) : Int)] = bts (L ++ (pre ++ [((m % 128 + 128 : Nat) : Int)])) := by simp [bts]
      rw [e2, show ln + 1 = (L ++ (pre ++ [((m % 128 + 128 : Nat) : Int)])).length by rw [← List.append_assoc, List.length_append, HLN.out]; rfl] at o4
      refine ⟨rfl, numJ_act (m := m / 128) (pre := pre ++ [((m % 128 + 128 : Nat) : Int)]) (by omega) he (by omega) o4 (HG.out.trans ⟨F4.out, L4.out⟩), ?_⟩
      simp [NumMu, intOf]
      omega
    · go_wp2_with (at_builtin; refine wpList_append_one rfl (.tmp 15) (.tmp 18) 25 rfl i5 (.int .u8 0) 1 Tryd.underlying25 HI5.out.1 HI5.out.2.1 HI5.out.2.2.1 HI5.out.2.2.2 rfl (.slice A1 ln k1) ln (bts (L ++ pre)) rfl rfl HO1.out rfl (by decide) HBT.out ?_; intro v4 w4 hown hfr hloc; have O4 := Lib.hid hown; have F4 := Lib.hid hfr; have L4 := Lib.hid hloc; clear hown hfr hloc)
      simp only [Exit.jump]
      go_ret
      have o4 := O4.out
      have hb : m < 128 := by omega
      have he : pre ++ [(m : Int)] = numb N := by rw [← HE.out, numb_small hb]
      refine ⟨v4, rfl, ?_, HG.out.trans ⟨F4.out, L4.out⟩⟩
      have e2 : bts (L ++ pre) ++ [Value.int .u8 (m : Int)] = bts (L ++ numb N) := by rw [← he]; simp [bts]
      rw [e2, show ln + 1 = (L ++ numb N).length by rw [← he, ← List.append_assoc, List.length_append, HLN.out]; rfl] at o4
      exact o4
end Go.Proofs.YtlgonkopojancaaDoor
