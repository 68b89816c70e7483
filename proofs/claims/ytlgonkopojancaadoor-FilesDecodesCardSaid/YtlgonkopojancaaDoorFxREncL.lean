/- The reference's numbers. -/
/- For the reference's Encode: what stands in its drawn regions. -/
import Derived.Test.YtlgonkopojancaaDoorFxEnc
import Derived.Test.YtlgonkopojancaaDoorFxEncW
import Derived.Test.YtlgonkopojancaaDoorFxFile
namespace Go.Proofs.YtlgonkopojancaaDoor
open Go.RowKit

set_option maxRecDepth 20000 in
set_option maxHeartbeats 1000000 in
theorem rnumber_any (N : Nat) (w : World) (hN : N < 18446744073709551616) :
    Calls Tryd.prog 30 #[.int .u64 N] w fun e w' => ∃ v, e = .returned v ∧ w'.ownsRow 0 5 1 v (numb N).length (bts (numb N)) ∧ From w.heap.size v ∧ Below w.heap.size w w' := by
  have HL : Hid ((numb N).length ≤ 10) := numb_len 9 N (by omega)
  obtain ⟨i5, hi, hz0, hz1, hz2⟩ := info_parts info5
  have hi5 := And.intro hi (And.intro hz0 (And.intro hz1 hz2))
  have HI5 := Lib.hid hi5; clear hi hz0 hz1 hz2 hi5
  go_enter Tryd.func30, Tryd.ntmps30
  go_wp2_with fail
  go_loopw [0, 3] (fun v0 v3 wr => ∃ (m : Nat) (pre : List Int), v0 = .int .u64 m ∧ (m : Int) < 18446744073709551616 ∧ Hid (pre ++ numb m = numb N) ∧ Hid (wr.ownsRow 0 5 1 v3 pre.length (bts pre)) ∧ Hid (Grew (.slice none 0 0) v3 w wr)) (fun v0 _ _ => (intOf v0).toNat)
  case atStart => exact ⟨N, [], rfl, by omega, rfl, World.ownsRow_nil _ _ _ _, Grew.refl _ _⟩
  case round =>
    obtain ⟨m, pre, rfl, hm, HE, HO, HG⟩ := hrel
    have hlen : pre.length + (numb m).length ≤ 10 := by rw [← List.length_append, HE.out]; exact HL.out
    have hpos := numb_pos m
    have hbt : (pre.length + 1) * 1 ≤ 140737488355328 := by omega
    have HBT := Lib.hid hbt
    obtain ⟨ln, hln⟩ : ∃ ln, pre.length = ln := ⟨_, rfl⟩
    rw [hln] at HO HBT
    have HLN := Lib.hid hln
    clear hlen hpos hbt hln
    obtain ⟨A1, k1, hv1⟩ := own_shape HO.out
    subst hv1
    by_cases h8 : (128 : Int) ≤ m
    · go_wp2_with (at_builtin; refine wpList_append_one rfl (.tmp 6) (.tmp 11) 25 rfl i5 (.int .u8 0) 1 Tryd.underlying25 HI5.out.1 HI5.out.2.1 HI5.out.2.2.1 HI5.out.2.2.2 rfl (.slice A1 ln k1) ln (bts pre) rfl rfl HO.out rfl (by decide) HBT.out ?_; intro v4 w4 hown hfr hloc; have O4 := Lib.hid hown; have F4 := Lib.hid hfr; have L4 := Lib.hid hloc; clear hown hfr hloc)
      go_roundw
      case rel =>
        have hb : ¬ m < 128 := by omega
        have he : pre ++ [((m % 128 + 128 : Nat) : Int)] ++ numb (m / 128) = numb N := by rw [← HE.out, numb_big hb]; simp
        have o4 := O4.out
        refine ⟨m / 128, pre ++ [((m % 128 + 128 : Nat) : Int)], by go_num, by omega, he, ?_, HG.out.trans ⟨F4.out, L4.out⟩⟩
        show World.ownsRow _ _ _ _ _ _ _
        have e2 : bts (pre ++ [((m % 128 + 128 : Nat) : Int)]) = bts pre ++ [Value.int .u8 ((m % 128 + 128 : Nat) : Int)] := by simp [bts]
        rw [e2, List.length_append, HLN.out]
        rw [show ((m % 128 + 128 : Nat) : Int) = (m : Int) % 128 + 128 by omega]
        exact o4
      case measure => simp [intOf]; omega
    · have h9 : (m : Int) < 128 := by omega
      go_wp2_with (at_builtin; refine wpList_append_one rfl (.tmp 15) (.tmp 18) 25 rfl i5 (.int .u8 0) 1 Tryd.underlying25 HI5.out.1 HI5.out.2.1 HI5.out.2.2.1 HI5.out.2.2.2 rfl (.slice A1 ln k1) ln (bts pre) rfl rfl HO.out rfl (by decide) HBT.out ?_; intro v4 w4 hown hfr hloc; have O4 := Lib.hid hown; have F4 := Lib.hid hfr; have L4 := Lib.hid hloc; clear hown hfr hloc)
      go_ret
      have hg := HG.out.trans ⟨F4.out, L4.out⟩
      refine ⟨_, rfl, ?_, (From.none _ _ _).grew hg (Nat.le_refl _), hg.below (From.none w.heap.size 0 0) (Nat.le_refl _)⟩
      have o4 := O4.out
      have e1 : numb N = pre ++ [(m : Int)] := by rw [← HE.out, numb_small (by omega)]
      have e2 : bts (pre ++ [(m : Int)]) = bts pre ++ [Value.int .u8 (m : Int)] := by simp [bts]
      rw [e1, e2, List.length_append, HLN.out]
      exact o4

set_option maxRecDepth 20000 in
theorem rtime_any (t : Int) (w : World) (h1 : -9223372036854775808 ≤ t) (h2 : t ≤ 9223372036854775807) : Calls Tryd.prog 31 #[.int .i64 t] w fun e w' => e = .returned (.int .u64 (zig t)) ∧ w' = w := by
  by_cases h : t < 0
  · have e1 : ((2 * (-(t + 1)).toNat + 1 : Nat) : Int) = (zig t : Int) := by unfold zig; rw [if_neg (by omega)]; omega
    have H1 := Lib.hid e1
    clear e1
    go_enter Tryd.func31, Tryd.ntmps31
    go_wp2_with fail
    go_ret
    exact ⟨congrArg (fun x => Ending.returned (.int .u64 x)) (show 2 * -(t + 1) + 1 = (zig t : Int) by have := H1.out; omega), rfl⟩
  · have e1 : (2 * t : Int) = (zig t : Int) := by unfold zig; rw [if_pos (by omega)]; omega
    have H1 := Lib.hid e1
    clear e1
    go_enter Tryd.func31, Tryd.ntmps31
    go_wp2_with fail
    go_ret
    exact ⟨congrArg (fun x => Ending.returned (.int .u64 x)) (show 2 * t = (zig t : Int) from H1.out), rfl⟩
end Go.Proofs.YtlgonkopojancaaDoor
namespace Go.Proofs.YtlgonkopojancaaDoor
open Go.RowKit

theorem step_append_reads {ops : Array Oper} {o : Oper} {a : Act} {w : World} {K : Act → World → Prop} {Q : Exit → Act → World → Prop} {E : Prop}
    (hg : o.guard = none) (sl y : Operand) (ho : o.op = Op.call { callee := Callee.builtin Builtin.append, args := #[sl, y], argTypes := #[25, 25] })
    (v : Value) (n m c : Nat) (A : Option Addr) (xs : List Value) (zs : List Int) (hs : a.eval sl = v) (hy : a.eval y = .slice A m c) (hown : w.ownsRow 0 5 1 v n xs) (hr : Reads w .u8 A m zs) (hb : n + m ≤ 140737488355328)
    (h : ∀ v' w', w'.ownsRow 0 5 1 v' (n + m) (xs ++ bts zs) → Grew v v' w w' → K (a.put o.dst v') w') :
    if Region.wanted o (yielded ops a.tmps) = true then Oper.wp Tryd.prog o a w K Q else E := by
  have hw : Region.wanted o (yielded ops a.tmps) = true := by simp [Region.wanted, hg]
  rw [if_pos hw]
  obtain ⟨i, hi, hz0, hz1, hz2⟩ := info_parts info5
  have ht := Tryd.underlying25
  cases A with
  | none =>
    obtain ⟨rfl, rfl⟩ := hr.none
    have hrun : (Builtin.append_ #[25, 25] o.type #[v, .slice none 0 c]).run Tryd.prog w = .ok v w := by
      rcases hown.2 with ⟨rfl, rfl⟩ | ⟨g, cap, cur, rfl, _, _, hnc, _⟩
      · simp [Builtin.append_, run_underlying ht, sizeOf, typeInfo, hi, Builtin.lenOf, Builtin.firstCells]
      · simp [Builtin.append_, run_underlying ht, sizeOf, typeInfo, hi, Builtin.lenOf, Builtin.firstCells, hnc, storeCells]
    unfold Oper.wp execOp
    simp only [ho, resolve, invoke, builtin, Sem.run_bind, Sem.run_pure, Result.andThen_ok, List.map_toArray, List.map_cons, List.map_nil, hs, hy, hrun]
    exact h v w (by simpa [bts] using hown) (Grew.refl _ _)
  | some ad =>
    obtain ⟨v', w', hrun, h2, h3, _, h5⟩ := run_append_own_at (P := Tryd.prog) w 0 25 o.type 5 i (.int .u8 0) 1 1 ht hi hz0 hz1 hz2 rfl (by decide) v n xs hown ad m c (bts zs) (by unfold bts; rw [List.length_map, hr.1]; omega)
      (fun j u hj => hr.cells rfl (by have := (List.getElem?_eq_some_iff.1 hj).1; have := hr.1; unfold bts at *; simp at *; omega) j u hj) (by intro u hu; unfold bts at hu; obtain ⟨x, _, rfl⟩ := List.mem_map.1 hu; rfl) (by unfold maxLen; omega) (by omega) (Nat.zero_le _)
    unfold Oper.wp execOp
    simp only [ho, resolve, invoke, builtin, Sem.run_bind, Sem.run_pure, Result.andThen_ok, List.map_toArray, List.map_cons, List.map_nil, hs, hy, hrun]
    exact h v' w' h2 ⟨Fr.of_grown h3, h5.imp id fun e => ⟨_, e, Nat.le_refl _⟩⟩
theorem rnumber_at (N : Nat) (x : Int) (w : World) (hx : x = (N : Int)) (hN : N < 18446744073709551616) :
    Calls Tryd.prog 30 #[.int .u64 x] w fun e w' => ∃ v, e = .returned v ∧ w'.ownsRow 0 5 1 v (numb N).length (bts (numb N)) ∧ From w.heap.size v ∧ Below w.heap.size w w' := by
  subst hx
  exact rnumber_any N w hN
/-- the row that grows, and the file at hand -/
structure On (B h : Nat) (cs : Array Value) (w : World) (v : Value) (L : List Int) : Prop where
  row : w.ownsRow 0 5 1 v L.length (bts L)
  fr : From B v
  hB : B ≤ h
  blk : w.heap[h]? = some (.cells cs 33 (0, 0))
theorem On.size {B h : Nat} {cs : Array Value} {w : World} {v : Value} {L : List Int} (t : On B h cs w v L) : B ≤ w.heap.size := Nat.le_trans t.hB (Nat.le_of_lt (blk_lt t.blk))
theorem On.below {B h : Nat} {cs : Array Value} {w w' : World} {v : Value} {L : List Int} (t : On B h cs w v L) (b : Below w.heap.size w w') : On B h cs w' v L :=
  ⟨(Fr.of_below b).own t.row (fun _ _ h => h), t.fr, t.hB, (b.block h (blk_lt t.blk)).trans t.blk⟩
theorem On.grow {B h : Nat} {cs : Array Value} {w w' : World} {v v' : Value} {L K : List Int} {m : Nat} (t : On B h cs w v L) (hm : K.length = m) (ho : w'.ownsRow 0 5 1 v' (L.length + m) (bts L ++ bts K)) (g : Grew v v' w w') : On B h cs w' v' (L ++ K) ∧ Below B w w' :=
  ⟨⟨own_app hm ho, t.fr.grew g t.size, t.hB, g.fr.blk t.blk (fun e => own_ne t.row t.blk (by decide) e.symm)⟩, g.below t.fr t.size⟩
theorem On.drew {B h : Nat} {cs : Array Value} {w : World} {v : Value} {L : List Int} (t : On B h cs w v L) : On B h cs w.drew v L := ⟨t.row, t.fr, t.hB, t.blk⟩
theorem On.c {B h : Nat} {w : World} {v : Value} {L : List Int} {f : Fi} {A : Option Addr} {n c : Nat} (t : On B h (fcells f A n c).toArray w v L) :
    w.cell? ⟨h, 0, none⟩ = some (.string f.name) ∧ w.cell? ⟨h, 1, none⟩ = some (.int .u32 f.mode) ∧ w.cell? ⟨h, 2, none⟩ = some (.int .i64 f.time) ∧ w.cell? ⟨h, 3, none⟩ = some (.slice A n c) :=
  ⟨by rw [blk_cell t.blk]; rfl, by rw [blk_cell t.blk]; rfl, by rw [blk_cell t.blk]; rfl, by rw [blk_cell t.blk]; rfl⟩
/-- a number's row, apart from the one that grows -/
structure Nm (w : World) (u : Value) (A : Option Addr) (zs : List Int) : Prop where
  rd : Reads w .u8 A zs.length zs
  far : ∀ g, A.map (·.block) = some g → u.ownBlock ≠ some g
theorem nm_make {B h : Nat} {cs : Array Value} {w w' : World} {u v : Value} {L zs : List Int} (t : On B h cs w u L) (ho : w'.ownsRow 0 5 1 v zs.length (bts zs)) (hf : From w.heap.size v) : ∃ A c, v = .slice A zs.length c ∧ Nm w' u A zs := by
  obtain ⟨A, c, rfl, hr⟩ := own_reads ho
  refine ⟨A, c, rfl, hr, fun g hg hu => ?_⟩
  have h1 := own_lt t.row hu
  have h2 := hr.lt
  rcases ho.2 with ⟨e, _⟩ | ⟨g', cap', cur, e, _⟩
  · injection e with e; subst e; simp at hg
  · injection e with e; subst e
    simp at hg
    subst hg
    have := hf g' (by simp [Value.ownBlock])
    omega
theorem Nm.below {w w' : World} {u : Value} {A : Option Addr} {zs : List Int} (h : Nm w u A zs) (b : Below w.heap.size w w') : Nm w' u A zs := ⟨h.rd.same b, h.far⟩
theorem Nm.grow {w w' : World} {u u' : Value} {A : Option Addr} {zs : List Int} (h : Nm w u A zs) (g : Grew u u' w w') : Reads w' .u8 A zs.length zs := h.rd.fr g.fr (fun _ b hb e => h.far b hb e.symm)
end Go.Proofs.YtlgonkopojancaaDoor
