/- The walk of the reader's file. -/
import Derived.Test.YtlgonkopojancaaDoorFxRdr
namespace Go.Proofs.YtlgonkopojancaaDoor
open Go.RowKit

theorem idx_of_drop {l r : List Oper} {i : Nat} {o : Oper} (h : l.drop i = o :: r) : l.toArray[i]? = some o := by
  have : (l.drop i)[0]? = some o := by rw [h]; rfl
  rw [List.getElem?_drop] at this
  simpa using this
/-- append of one new element as one step of a region that draws its order, behind whatever was done -/
theorem step_append_new {P : Program} {ops : Array Oper} {o : Oper} {a : Act} {w0 : World} {K : Act → World → Prop} {Q : Exit → Act → World → Prop} {E : Prop} {x : Value} {e : TypeId} (H : Nat) (hH : w0.heap.size = H)
    (hg : o.guard = none) (s y : Operand) (t : TypeId) (ho : o.op = Op.call { callee := Callee.builtin Builtin.append, args := #[s, y], argTypes := #[t, t] })
    (i : TypeInfo) (z : Value) (bytes : Nat) (ht : P.underlying t = some (.slice e)) (hi : P.info? e = some i) (hz : i.zero = some z) (hsize : i.size = 1) (hby : i.bytes = bytes) (hzs : z.cells.size = 1)
    (v : Value) (n : Nat) (xs : List Value) (hs : a.eval s = v) (hy : a.eval y = .slice (some ⟨H, 0, none⟩) 1 1) (hown : w0.ownsRow 0 e 1 v n xs) (hx1 : x.oneCell' = true) (hb0 : 0 < bytes) (hbytes : (n + 1) * bytes ≤ 140737488355328)
    (h : ∀ v' w', w'.ownsRow 0 e 1 v' (n + 1) (xs ++ [x]) → Grew v v' w0 w' → K (a.put o.dst v') w') :
    if Region.wanted o (yielded ops a.tmps) = true then Oper.wp P o a (w0.alloc (.cells #[x] e)) K Q else E := by
  subst hH
  have hw : Region.wanted o (yielded ops a.tmps) = true := by simp [Region.wanted, hg]
  rw [if_pos hw]
  obtain ⟨v', w', hr, h2, h3, h5⟩ := run_append_one (P := P) w0 _ (.inl rfl) t o.type i z bytes ht hi hz hsize hby hzs v n xs hown hx1 hb0 hbytes
  unfold Oper.wp execOp
  simp only [ho, resolve, invoke, builtin, Sem.run_bind, Sem.run_pure, Result.andThen_ok, List.map_toArray, List.map_cons, List.map_nil, hs, hy, hr]
  exact h v' w' h2 ⟨h3, h5⟩
def FilePost (B g : Nat) (w : World) (xs : List Int) (fs : List Fi) (zs : List Nat) (e : Ending) (w' : World) : Prop :=
  Below B w w' ∧ match fileP xs with
    | some (f, z, r) => e = .returned (.tuple #[]) ∧ ∃ A n c lv sv, Rdr B g w' A n c r lv sv (fs ++ [f]) (zs ++ [z])
    | none => e = .panicked EIX
theorem file_none {B g : Nat} {w w' : World} {xs : List Int} {fs : List Fi} {zs : List Nat} (hb : Below B w w') (h : fileP xs = none) : FilePost B g w xs fs zs (.panicked EIX) w' := by
  refine ⟨hb, ?_⟩
  rw [h]

theorem xor64_zero (a : Nat) (h : a < 9223372036854775808) : bits BinOp.xor .i64 (a : Int) 0 = (a : Int) := by
  have h1 : (BitVec.ofInt 64 (a : Int)).toNat = a := by
    rw [BitVec.ofInt_natCast, BitVec.toNat_ofNat]; exact Nat.mod_eq_of_lt (by omega)
  show IntKind.i64.wrap ((BitVec.ofInt 64 (a : Int) ^^^ BitVec.ofInt 64 0).toNat : Int) = _
  have h2 : BitVec.ofInt 64 0 = 0#64 := rfl
  rw [h2, BitVec.xor_zero, h1, IntKind.wrap_i64]
  omega
theorem xor64_ones (a : Nat) (h : a < 9223372036854775808) : bits BinOp.xor .i64 (a : Int) (-1) = -(a : Int) - 1 := by
  have h1 : (BitVec.ofInt 64 (a : Int)).toNat = a := by
    rw [BitVec.ofInt_natCast, BitVec.toNat_ofNat]; exact Nat.mod_eq_of_lt (by omega)
  show IntKind.i64.wrap ((BitVec.ofInt 64 (a : Int) ^^^ BitVec.ofInt 64 (-1)).toNat : Int) = _
  have h2 : BitVec.ofInt 64 (-1) = BitVec.allOnes 64 := by decide
  rw [h2, BitVec.xor_allOnes, BitVec.toNat_not, h1, IntKind.wrap_i64]
  omega
theorem unzig_x {t : Nat} (h : t < 18446744073709551616) : bits BinOp.xor .i64 (wrap64 ((t : Int) / 2)) (wrap64 (-wrap64 (bits BinOp.and .u64 (t : Int) 1))) = unzig t := by
  have e1 : bits BinOp.and .u64 (t : Int) 1 = ((t % 2 : Nat) : Int) := by
    have := bits_and_u64_nat t 1 h (by decide)
    rw [Nat.and_one_is_mod] at this
    exact this
  have e2 : wrap64 ((t : Int) / 2) = ((t / 2 : Nat) : Int) := by unfold wrap64; omega
  rw [e1, e2]
  unfold unzig
  by_cases h2 : t % 2 = 0
  · rw [if_pos h2, h2]
    have e3 : wrap64 (-wrap64 ((0 : Nat) : Int)) = 0 := by unfold wrap64; omega
    rw [e3, xor64_zero _ (by omega)]
  · rw [if_neg h2, show t % 2 = 1 by omega]
    have e3 : wrap64 (-wrap64 ((1 : Nat) : Int)) = -1 := by unfold wrap64; omega
    rw [e3, xor64_ones _ (by omega)]

set_option linter.unusedSimpArgs false in
set_option maxRecDepth 20000 in
set_option maxHeartbeats 4000000 in
theorem file_any {B g : Nat} {w : World} {A : Option Addr} {n c : Nat} {xs : List Int} {lv sv : Value} {fs : List Fi} {zs : List Nat} (h : Rdr B g w A n c xs lv sv fs zs) (hb : Bts xs) (hfl : fs.length ≤ 1000) (hzl : zs.length ≤ 1000) :
    Calls Tryd.prog 46 #[.pointer (some ⟨g, 0, none⟩)] w (FilePost B g w xs fs zs) := by
  have HR0 := Lib.hid h; have HB0 := Lib.hid hb; have HFL := Lib.hid hfl; have HZL := Lib.hid hzl; clear h hb hfl hzl
  obtain ⟨i33, hi, hz0, hz1, hz2⟩ := info_parts info33
  have hi33 := And.intro hi (And.intro hz0 (And.intro hz1 hz2))
  have HI33 := Lib.hid hi33; clear hi hz0 hz1 hz2 hi33
  obtain ⟨i47, hi, hz0, hz1, hz2⟩ := info_parts info47
  have hi47 := And.intro hi (And.intro hz0 (And.intro hz1 hz2))
  have HI47 := Lib.hid hi47; clear hi hz0 hz1 hz2 hi47
  go_enter Tryd.func46, Tryd.ntmps46
  go_wp2_with fail
  refine wp_region_held_drew (S := fun _ => True) (by kernel_rfl) (by exact trivial) (fun hHeld => ?_)
  refine wpAnyH_take (i := 0) (v := ?va1) (idx_of_drop rfl) (by kernel_rfl) (by kernel_rfl) (by kernel_rfl) (fun _ _ _ h => h) (Or.inl ⟨by rfl, ?ya1⟩) (by assumption) ?ra1
  case ya1 => (intro w hSw; go_simp <;> with_reducible rfl)
  (try simp only [Act.put, List.setIfInBounds_toArray, List.set_cons_zero, List.set_cons_succ])
  refine wpAnyH_take (i := 1) (v := ?va2) (idx_of_drop rfl) (by kernel_rfl) (by kernel_rfl) (by kernel_rfl) (fun _ _ _ h => h) (Or.inl ⟨by rfl, ?ya2⟩) (by assumption) ?ra2
  case ya2 => (intro w hSw; go_simp <;> with_reducible rfl)
  (try simp only [Act.put, List.setIfInBounds_toArray, List.set_cons_zero, List.set_cons_succ])
  refine wpAnyH_take (i := 2) (v := ?va3) (idx_of_drop rfl) (by kernel_rfl) (by kernel_rfl) (by kernel_rfl) (fun _ _ _ h => h) (Or.inl ⟨by rfl, ?ya3⟩) (by assumption) ?ra3
  case ya3 => (intro w hSw; go_simp <;> with_reducible rfl)
  (try simp only [Act.put, List.setIfInBounds_toArray, List.set_cons_zero, List.set_cons_succ])
  refine wpAnyH_take (i := 3) (v := ?va4) (idx_of_drop rfl) (by kernel_rfl) (by kernel_rfl) (by kernel_rfl) (fun _ _ _ h => h) (Or.inl ⟨by rfl, ?ya4⟩) (by assumption) ?ra4
  case ya4 => (intro w hSw; go_simp <;> with_reducible rfl)
  (try simp only [Act.put, List.setIfInBounds_toArray, List.set_cons_zero, List.set_cons_succ])
  refine wpAnyH_take (i := 4) (v := ?va5) (idx_of_drop rfl) (by kernel_rfl) (by kernel_rfl) (by kernel_rfl) (fun _ _ _ h => h) (Or.inl ⟨by rfl, ?ya5⟩) (by assumption) ?ra5
  case ya5 => (intro w hSw; go_simp <;> with_reducible rfl)
  (try simp only [Act.put, List.setIfInBounds_toArray, List.set_cons_zero, List.set_cons_succ])
  refine wpAnyH_take (i := 5) (v := ?va6) (idx_of_drop rfl) (by kernel_rfl) (by kernel_rfl) (by kernel_rfl) (fun _ _ _ h => h) (Or.inl ⟨by rfl, ?ya6⟩) (by assumption) ?ra6
  case ya6 => (intro w hSw; go_simp <;> with_reducible rfl)
  (try simp only [Act.put, List.setIfInBounds_toArray, List.set_cons_zero, List.set_cons_succ])
  refine wpAnyH_ready (rs := [6]) (by kernel_rfl) (by simp) ?_
  refine AllReadyH.cons (idx_of_drop rfl) (fun K hK => ?sa7) ?ma7
  case sa7 =>
    go_simp
    rcases hN1 : getN xs with _ | ⟨ln, r1⟩
    · refine (rnum_none HR0.out.drew HB0.out hN1).mono ?_
      rintro e w1 ⟨rfl, hb1⟩
      exact ⟨rfl, file_none ((Below.refl _ _).drew.trans hb1) (by unfold fileP; rw [hN1])⟩
    refine (rnum_some HR0.out.drew HB0.out hN1).mono ?_
    rintro e w1 ⟨rfl, ⟨A1, n1, c1, hr1⟩, hb1⟩
    have HR1 := Lib.hid hr1; have HW1 : Hid (Below B w w1) := (Below.refl _ _).drew.trans hb1; have HN1 := Lib.hid hN1; clear hr1 hb1 hN1
    refine hK.out _ _ (by exact trivial) (fun hHeld => ?_)
    clear hK K
    (try simp only [Act.put, List.setIfInBounds_toArray, List.set_cons_zero, List.set_cons_succ])
    refine wpAnyH_ready (rs := [7]) (by kernel_rfl) (by simp) ?_
    refine AllReadyH.cons (idx_of_drop rfl) (fun K hK => ?sa8) ?ma8
    case sa8 =>
      go_simp
      by_cases hC : ln ≤ r1.length
      case neg =>
        refine (rtake_none HR1.out ln _ rfl (by omega)).mono ?_
        rintro e w2 ⟨rfl, hb2⟩
        exact ⟨rfl, file_none (HW1.out.trans hb2) (by unfold fileP cutP; simp only [HN1.out, if_neg hC])⟩
      refine (rtake_some HR1.out ln _ rfl hC).mono ?_
      rintro e w2 ⟨A2, c2, rfl, hp2, hl2, ⟨A3, n3, c3, hr2⟩, hb2⟩
      have q2 := conv_reads (c := c2) hp2
      have HR2 := Lib.hid hr2; have HW2 : Hid (Below B w w2) := HW1.out.trans hb2; have HC := Lib.hid hC; clear hr2 hb2 hp2 hl2 hC
      refine hK.out _ _ (by exact trivial) (fun hHeld => ?_)
      clear hK K
      (try simp only [Act.put, List.setIfInBounds_toArray, List.set_cons_zero, List.set_cons_succ])
      refine wpAnyH_ready (rs := [8]) (by kernel_rfl) (by simp) ?_
      refine AllReadyH.cons (idx_of_drop rfl) (fun K hK => ?sa9) ?ma9
      case sa9 =>
        go_simp
        refine hK.out _ _ (by exact trivial) (fun hHeld => ?_)
        clear hK K
        (try simp only [Act.put, List.setIfInBounds_toArray, List.set_cons_zero, List.set_cons_succ])
        refine wpAnyH_take (i := 9) (v := ?va10) (idx_of_drop rfl) (by kernel_rfl) (by kernel_rfl) (by kernel_rfl) (fun _ _ _ h => h) (Or.inl ⟨by rfl, ?ya10⟩) (by assumption) ?ra10
        case ya10 => (intro w hSw; go_simp <;> with_reducible rfl)
        (try simp only [Act.put, List.setIfInBounds_toArray, List.set_cons_zero, List.set_cons_succ])
        refine wpAnyH_done (by kernel_rfl) ?_ _
        clear hHeld q2
        obtain ⟨r2, hr2e⟩ : ∃ r, r1.drop ln = r := ⟨_, rfl⟩
        obtain ⟨nm, hnme⟩ : ∃ s, r1.take ln = s := ⟨_, rfl⟩
        rw [hr2e] at HR2
        rw [hnme]
        have HCUT : Hid (cutP ln r1 = some (nm, r2)) := (by unfold cutP; rw [if_pos HC.out, hr2e, hnme] : cutP ln r1 = some (nm, r2))
        have hb1 := (getN_bts HB0.out HN1.out).1
        have hb2 : Bts r2 := fun x hx => hb1 x (by rw [← hr2e] at hx; exact List.mem_of_mem_drop hx)
        have hnb : Bts nm := fun x hx => hb1 x (by rw [← hnme] at hx; exact List.mem_of_mem_take hx)
        have HB2 := Lib.hid hb2; have HNB := Lib.hid hnb
        clear hb1 hb2 hnb hr2e hnme
        go_wp2_with fail
        rcases hN3 : getN r2 with _ | ⟨mode, r3⟩
        · refine (rnum_none HR2.out HB2.out hN3).mono ?_
          rintro e w3 ⟨rfl, hb3⟩
          exact ⟨rfl, file_none (HW2.out.trans hb3) (by unfold fileP; simp only [HN1.out, HCUT.out, hN3])⟩
        refine (rnum_some HR2.out HB2.out hN3).mono ?_
        rintro e w3 ⟨rfl, ⟨A4, n4, c4, hr3⟩, hb3⟩
        have HR3 := Lib.hid hr3; have HW3 : Hid (Below B w w3) := HW2.out.trans hb3; have HN3 := Lib.hid hN3; have HB3 := Lib.hid (getN_bts HB2.out hN3)
        clear hr3 hb3 hN3
        go_wp2_with fail
        by_cases hM : mode ≤ 4095
        case neg =>
          refine (must_no _ _ (by rw [decide_eq_false_iff_not]; omega)).mono ?_
          rintro e w4 ⟨rfl, rfl⟩
          exact ⟨rfl, file_none HW3.out (by unfold fileP; simp only [HN1.out, HCUT.out, HN3.out, if_neg hM])⟩
        refine (must_yes _ _ (by rw [decide_eq_true_eq]; omega)).mono ?_
        rintro e w4 ⟨rfl, rfl⟩
        have HM := Lib.hid hM; clear hM
        go_wp2_with fail
        rcases hN5 : getN r3 with _ | ⟨t, r4⟩
        · refine (rnum_none HR3.out HB3.out.1 hN5).mono ?_
          rintro e w5 ⟨rfl, hb5⟩
          exact ⟨rfl, file_none (HW3.out.trans hb5) (by unfold fileP; simp only [HN1.out, HCUT.out, HN3.out, if_pos HM.out, hN5])⟩
        refine (rnum_some HR3.out HB3.out.1 hN5).mono ?_
        rintro e w5 ⟨rfl, ⟨A6, n6, c6, hr5⟩, hb5⟩
        have HR5 := Lib.hid hr5; have HW5 : Hid (Below B w w5) := HW3.out.trans hb5; have HN5 := Lib.hid hN5; have HB5 := Lib.hid (getN_bts HB3.out.1 hN5)
        clear hr5 hb5 hN5
        obtain ⟨Al, kl, rfl⟩ := own_shape HR5.out.ol
        have c1 := HR5.out.rb.c1
        have f1 := blk_frozen HR5.out.rb 1
        have hz := unzig_x HB5.out.2
        have hmm : (mode : Int) % 4294967296 = (mode : Int) := by have := HM.out; omega
        have hk1 : ∀ w' v', Grew (.slice Al fs.length kl) v' w5 w' → w'.cell? ⟨g, 1, none⟩ = some (.slice Al fs.length kl) ∧ w'.frozen? ⟨g, 1, none⟩ = false := fun w' v' hg => by
          have := HR5.out.rb.fr hg.fr (fun e => HR5.out.gl e.symm)
          exact ⟨this.c1, blk_frozen this 1⟩
        have HK1 := Lib.hid hk1; clear hk1
        go_wp2_with (at_builtin; refine wpList_append_cellsH (ys := [.string (strOf nm), .int .u32 mode, .int .i64 (unzig t), .slice none 0 0]) w5.heap.size rfl rfl (.tmp 29) (.tmp 42) 23 rfl i33 _ 4 56 Tryd.underlying23 HI33.out.1 HI33.out.2.1 HI33.out.2.2.1 HI33.out.2.2.2 rfl (by decide) (.slice Al fs.length kl) fs.length (flat (fs.map bareV)) rfl rfl HR5.out.ol rfl (one4 (bareV ⟨strOf nm, mode, unzig t, []⟩)) (by decide) (by have := HFL.out; omega) ?_; intro v6 w6 hown hgr; obtain ⟨Am, km, rfl⟩ := own_shape hown; have k1 := HK1.out _ _ hgr; have k2 := k1.2; have k1 := k1.1; have O6 := Lib.hid hown; have G6 := Lib.hid hgr; clear hown hgr)
        have hL := HR5.out.setL (f := ⟨strOf nm, mode, unzig t, []⟩) G6.out O6.out
        obtain ⟨hR7, hW7⟩ := hL
        obtain ⟨W7, hWe⟩ : ∃ W, w6.setCell ⟨g, 1, none⟩ (.slice Am (fs.length + 1) km) = W := ⟨_, rfl⟩
        rw [hWe] at hR7 hW7
        rw [hWe]
        have HR7 := Lib.hid hR7; have HW7 : Hid (Below B w W7) := HW5.out.trans hW7
        clear hR7 hW7 hWe k1 k2 c1 f1 hz hmm
        obtain ⟨As, ks, rfl⟩ := own_shape HR7.out.os
        have c2 := HR7.out.rb.c2
        go_wp2_with fail
        refine wp_region_held_drew (S := fun _ => True) (by kernel_rfl) (by exact trivial) (fun hHeld => ?_)
        refine wpAnyH_take (i := 0) (v := ?vb1) (idx_of_drop rfl) (by kernel_rfl) (by kernel_rfl) (by kernel_rfl) (fun _ _ _ h => h) (Or.inl ⟨by rfl, ?yb1⟩) (by assumption) ?rb1
        case yb1 => (intro w hSw; go_simp <;> with_reducible rfl)
        (try simp only [Act.put, List.setIfInBounds_toArray, List.set_cons_zero, List.set_cons_succ])
        refine wpAnyH_take (i := 1) (v := ?vb2) (idx_of_drop rfl) (by kernel_rfl) (by kernel_rfl) (by kernel_rfl) (fun _ _ _ h => h) (Or.inl ⟨by rfl, ?yb2⟩) (by assumption) ?rb2
        case yb2 => (intro w hSw; go_simp <;> with_reducible rfl)
        (try simp only [Act.put, List.setIfInBounds_toArray, List.set_cons_zero, List.set_cons_succ])
        refine wpAnyH_take (i := 2) (v := ?vb3) (idx_of_drop rfl) (by kernel_rfl) (by kernel_rfl) (by kernel_rfl) (fun _ _ _ h => h) (Or.inl ⟨by rfl, ?yb3⟩) (by assumption) ?rb3
        case yb3 => (intro w hSw; go_simp <;> with_reducible rfl)
        (try simp only [Act.put, List.setIfInBounds_toArray, List.set_cons_zero, List.set_cons_succ])
        refine wpAnyH_take (i := 3) (v := ?vb4) (idx_of_drop rfl) (by kernel_rfl) (by kernel_rfl) (by kernel_rfl) (fun _ _ _ h => h) (Or.inl ⟨by rfl, ?yb4⟩) (by assumption) ?rb4
        case yb4 => (intro w hSw; go_simp <;> with_reducible rfl)
        (try simp only [Act.put, List.setIfInBounds_toArray, List.set_cons_zero, List.set_cons_succ])
        refine wpAnyH_take (i := 5) (v := ?vb5) (idx_of_drop rfl) (by kernel_rfl) (by kernel_rfl) (by kernel_rfl) (fun _ _ _ h => h) (Or.inl ⟨by rfl, ?yb5⟩) (by assumption) ?rb5
        case yb5 => (intro w hSw; go_simp <;> with_reducible rfl)
        (try simp only [Act.put, List.setIfInBounds_toArray, List.set_cons_zero, List.set_cons_succ])
        refine wpAnyH_take (i := 6) (v := ?vb6) (idx_of_drop rfl) (by kernel_rfl) (by kernel_rfl) (by kernel_rfl) (fun _ _ _ h => h) (Or.inl ⟨by rfl, ?yb6⟩) (by assumption) ?rb6
        case yb6 => (intro w hSw; go_simp <;> with_reducible rfl)
        (try simp only [Act.put, List.setIfInBounds_toArray, List.set_cons_zero, List.set_cons_succ])
        refine wpAnyH_take (i := 7) (v := ?vb7) (idx_of_drop rfl) (by kernel_rfl) (by kernel_rfl) (by kernel_rfl) (fun _ _ _ h => h) (Or.inl ⟨by rfl, ?yb7⟩) (by assumption) ?rb7
        case yb7 => (intro w hSw; go_simp <;> with_reducible rfl)
        (try simp only [Act.put, List.setIfInBounds_toArray, List.set_cons_zero, List.set_cons_succ])
        refine wpAnyH_ready (rs := [4, 8]) (by kernel_rfl) (by simp) ?_
        refine AllReadyH.cons (idx_of_drop rfl) (fun K hK => ?sb8) ?mb8
        case sb8 =>
          go_simp
          refine hK.out _ _ (by exact trivial) (fun hHeld => ?_)
          clear hK K
          (try simp only [Act.put, List.setIfInBounds_toArray, List.set_cons_zero, List.set_cons_succ])
          refine wpAnyH_ready (rs := [8]) (by kernel_rfl) (by simp) ?_
          refine AllReadyH.cons (idx_of_drop rfl) (fun K hK => ?sb9) ?mb9
          case sb9 =>
            go_simp
            rcases hN8 : getN r4 with _ | ⟨size, r5⟩
            · refine (rnum_none HR7.out.drew HB5.out.1 hN8).mono ?_
              rintro e w8 ⟨rfl, hb8⟩
              exact ⟨rfl, file_none (HW7.out.trans ((Below.refl _ _).drew.trans hb8)) (by unfold fileP; simp only [HN1.out, HCUT.out, HN3.out, if_pos HM.out, HN5.out, hN8])⟩
            refine (rnum_some HR7.out.drew HB5.out.1 hN8).mono ?_
            rintro e w8 ⟨rfl, ⟨A9, n9, c9, hr8⟩, hb8⟩
            have HR8 := Lib.hid hr8; have HW8 : Hid (Below B w w8) := HW7.out.trans ((Below.refl _ _).drew.trans hb8); have HN8 := Lib.hid hN8; have c2 := hr8.rb.c2; clear hr8 hb8 hN8
            refine hK.out _ _ (by exact trivial) (fun hHeld => ?_)
            clear hK K
            (try simp only [Act.put, List.setIfInBounds_toArray, List.set_cons_zero, List.set_cons_succ])
            refine wpAnyH_ready (rs := [9]) (by kernel_rfl) (by simp) ?_
            refine AllReadyH.cons (idx_of_drop rfl) (fun K hK => ?sb10) ?mb10
            case sb10 =>
              go_simp
              refine hK.out _ _ (by exact trivial) (fun hHeld => ?_)
              clear hK K
              (try simp only [Act.put, List.setIfInBounds_toArray, List.set_cons_zero, List.set_cons_succ])
              refine wpAnyH_ready (rs := [10]) (by kernel_rfl) (by simp) ?_
              refine AllReadyH.cons (idx_of_drop rfl) (fun K hK => ?sb11) ?mb11
              case sb11 =>
                refine step_append_new (x := .int .u64 size) w8.heap.size rfl rfl (.tmp 50) (.tmp 55) 65 rfl i47 (.int .u64 0) 8 Tryd.underlying65 HI47.out.1 HI47.out.2.1 HI47.out.2.2.1 HI47.out.2.2.2 rfl (.slice As zs.length ks) zs.length (u64s zs) rfl rfl HR8.out.os rfl (by decide) (by have := HZL.out; omega) ?_
                intro v9 w9 hown hgr
                obtain ⟨An, kn, rfl⟩ := own_shape hown
                have O9 := Lib.hid hown; have G9 := Lib.hid hgr
                have hrb9 := HR8.out.rb.fr hgr.fr (fun e => HR8.out.gs e.symm)
                have c29 := hrb9.c2; have f29 := blk_frozen hrb9 2
                clear hown hgr hrb9
                refine hK.out _ _ (by exact trivial) (fun hHeld => ?_)
                clear hK K
                (try simp only [Act.put, List.setIfInBounds_toArray, List.set_cons_zero, List.set_cons_succ])
                refine wpAnyH_take (i := 11) (v := ?vb12) (idx_of_drop rfl) (by kernel_rfl) (by kernel_rfl) (by kernel_rfl) (fun _ _ _ h => h) (Or.inl ⟨by rfl, ?yb12⟩) (by assumption) ?rb12
                case yb12 => (intro w hSw; go_simp <;> with_reducible rfl)
                (try simp only [Act.put, List.setIfInBounds_toArray, List.set_cons_zero, List.set_cons_succ])
                refine wpAnyH_take (i := 12) (v := ?vb13) (idx_of_drop rfl) (by kernel_rfl) (by kernel_rfl) (by kernel_rfl) (fun _ _ _ h => h) (Or.inl ⟨by rfl, ?yb13⟩) (by assumption) ?rb13
                case yb13 => (intro w hSw; go_simp <;> with_reducible rfl)
                (try simp only [Act.put, List.setIfInBounds_toArray, List.set_cons_zero, List.set_cons_succ])
                refine wpAnyH_ready (rs := [13]) (by kernel_rfl) (by simp) ?_
                refine AllReadyH.cons (idx_of_drop rfl) (fun K hK => ?sb14) ?mb14
                case sb14 =>
                  go_simp
                  refine hK.out _ _ (by exact trivial) (fun hHeld => ?_)
                  clear hK K
                  (try simp only [Act.put, List.setIfInBounds_toArray, List.set_cons_zero, List.set_cons_succ])
                  refine wpAnyH_done (by kernel_rfl) ?_ _
                  go_end0
                  have hS := HR8.out.setS (z := size) G9.out O9.out
                  refine ⟨HW8.out.trans hS.2, ?_⟩
                  have hfp : fileP xs = some (⟨strOf nm, mode, unzig t, []⟩, size, r5) := by unfold fileP; simp only [HN1.out, HCUT.out, HN3.out, if_pos HM.out, HN5.out, HN8.out]
                  rw [hfp]
                  exact ⟨rfl, _, _, _, _, _, hS.1⟩
                exact AllReadyH.nil
              exact AllReadyH.nil
            exact AllReadyH.nil
          exact AllReadyH.nil
        refine AllReadyH.cons (idx_of_drop rfl) (fun K hK => ?sb15) ?mb15
        case sb15 =>
          go_simp
          rcases hN8 : getN r4 with _ | ⟨size, r5⟩
          · refine (rnum_none HR7.out.drew HB5.out.1 hN8).mono ?_
            rintro e w8 ⟨rfl, hb8⟩
            exact ⟨rfl, file_none (HW7.out.trans ((Below.refl _ _).drew.trans hb8)) (by unfold fileP; simp only [HN1.out, HCUT.out, HN3.out, if_pos HM.out, HN5.out, hN8])⟩
          refine (rnum_some HR7.out.drew HB5.out.1 hN8).mono ?_
          rintro e w8 ⟨rfl, ⟨A9, n9, c9, hr8⟩, hb8⟩
          have HR8 := Lib.hid hr8; have HW8 : Hid (Below B w w8) := HW7.out.trans ((Below.refl _ _).drew.trans hb8); have HN8 := Lib.hid hN8; have c2 := hr8.rb.c2; clear hr8 hb8 hN8
          refine hK.out _ _ (by exact trivial) (fun hHeld => ?_)
          clear hK K
          (try simp only [Act.put, List.setIfInBounds_toArray, List.set_cons_zero, List.set_cons_succ])
          refine wpAnyH_ready (rs := [4, 9]) (by kernel_rfl) (by simp) ?_
          refine AllReadyH.cons (idx_of_drop rfl) (fun K hK => ?sb16) ?mb16
          case sb16 =>
            go_simp
            refine hK.out _ _ (by exact trivial) (fun hHeld => ?_)
            clear hK K
            (try simp only [Act.put, List.setIfInBounds_toArray, List.set_cons_zero, List.set_cons_succ])
            refine wpAnyH_ready (rs := [9]) (by kernel_rfl) (by simp) ?_
            refine AllReadyH.cons (idx_of_drop rfl) (fun K hK => ?sb17) ?mb17
            case sb17 =>
              go_simp
              refine hK.out _ _ (by exact trivial) (fun hHeld => ?_)
              clear hK K
              (try simp only [Act.put, List.setIfInBounds_toArray, List.set_cons_zero, List.set_cons_succ])
              refine wpAnyH_ready (rs := [10]) (by kernel_rfl) (by simp) ?_
              refine AllReadyH.cons (idx_of_drop rfl) (fun K hK => ?sb18) ?mb18
              case sb18 =>
                refine step_append_new (x := .int .u64 size) w8.heap.size rfl rfl (.tmp 50) (.tmp 55) 65 rfl i47 (.int .u64 0) 8 Tryd.underlying65 HI47.out.1 HI47.out.2.1 HI47.out.2.2.1 HI47.out.2.2.2 rfl (.slice As zs.length ks) zs.length (u64s zs) rfl rfl HR8.out.os rfl (by decide) (by have := HZL.out; omega) ?_
                intro v9 w9 hown hgr
                obtain ⟨An, kn, rfl⟩ := own_shape hown
                have O9 := Lib.hid hown; have G9 := Lib.hid hgr
                have hrb9 := HR8.out.rb.fr hgr.fr (fun e => HR8.out.gs e.symm)
                have c29 := hrb9.c2; have f29 := blk_frozen hrb9 2
                clear hown hgr hrb9
                refine hK.out _ _ (by exact trivial) (fun hHeld => ?_)
                clear hK K
                (try simp only [Act.put, List.setIfInBounds_toArray, List.set_cons_zero, List.set_cons_succ])
                refine wpAnyH_take (i := 11) (v := ?vb19) (idx_of_drop rfl) (by kernel_rfl) (by kernel_rfl) (by kernel_rfl) (fun _ _ _ h => h) (Or.inl ⟨by rfl, ?yb19⟩) (by assumption) ?rb19
                case yb19 => (intro w hSw; go_simp <;> with_reducible rfl)
                (try simp only [Act.put, List.setIfInBounds_toArray, List.set_cons_zero, List.set_cons_succ])
                refine wpAnyH_take (i := 12) (v := ?vb20) (idx_of_drop rfl) (by kernel_rfl) (by kernel_rfl) (by kernel_rfl) (fun _ _ _ h => h) (Or.inl ⟨by rfl, ?yb20⟩) (by assumption) ?rb20
                case yb20 => (intro w hSw; go_simp <;> with_reducible rfl)
                (try simp only [Act.put, List.setIfInBounds_toArray, List.set_cons_zero, List.set_cons_succ])
                refine wpAnyH_ready (rs := [13]) (by kernel_rfl) (by simp) ?_
                refine AllReadyH.cons (idx_of_drop rfl) (fun K hK => ?sb21) ?mb21
                case sb21 =>
                  go_simp
                  refine hK.out _ _ (by exact trivial) (fun hHeld => ?_)
                  clear hK K
                  (try simp only [Act.put, List.setIfInBounds_toArray, List.set_cons_zero, List.set_cons_succ])
                  refine wpAnyH_done (by kernel_rfl) ?_ _
                  go_end0
                  have hS := HR8.out.setS (z := size) G9.out O9.out
                  refine ⟨HW8.out.trans hS.2, ?_⟩
                  have hfp : fileP xs = some (⟨strOf nm, mode, unzig t, []⟩, size, r5) := by unfold fileP; simp only [HN1.out, HCUT.out, HN3.out, if_pos HM.out, HN5.out, HN8.out]
                  rw [hfp]
                  exact ⟨rfl, _, _, _, _, _, hS.1⟩
                exact AllReadyH.nil
              exact AllReadyH.nil
            exact AllReadyH.nil
          refine AllReadyH.cons (idx_of_drop rfl) (fun K hK => ?sb22) ?mb22
          case sb22 =>
            go_simp
            refine hK.out _ _ (by exact trivial) (fun hHeld => ?_)
            clear hK K
            (try simp only [Act.put, List.setIfInBounds_toArray, List.set_cons_zero, List.set_cons_succ])
            have c2b := (HR8.out.rb.fr ((Fr.refl (fun _ => False) w8).alloc (.cells #[.int .u64 size] 47)) (fun h => h)).c2
            refine wpAnyH_ready (rs := [4]) (by kernel_rfl) (by simp) ?_
            refine AllReadyH.cons (idx_of_drop rfl) (fun K hK => ?sb23) ?mb23
            case sb23 =>
              go_simp
              refine hK.out _ _ (by exact trivial) (fun hHeld => ?_)
              clear hK K
              (try simp only [Act.put, List.setIfInBounds_toArray, List.set_cons_zero, List.set_cons_succ])
              refine wpAnyH_ready (rs := [10]) (by kernel_rfl) (by simp) ?_
              refine AllReadyH.cons (idx_of_drop rfl) (fun K hK => ?sb24) ?mb24
              case sb24 =>
                refine step_append_new (x := .int .u64 size) w8.heap.size rfl rfl (.tmp 50) (.tmp 55) 65 rfl i47 (.int .u64 0) 8 Tryd.underlying65 HI47.out.1 HI47.out.2.1 HI47.out.2.2.1 HI47.out.2.2.2 rfl (.slice As zs.length ks) zs.length (u64s zs) rfl rfl HR8.out.os rfl (by decide) (by have := HZL.out; omega) ?_
                intro v9 w9 hown hgr
                obtain ⟨An, kn, rfl⟩ := own_shape hown
                have O9 := Lib.hid hown; have G9 := Lib.hid hgr
                have hrb9 := HR8.out.rb.fr hgr.fr (fun e => HR8.out.gs e.symm)
                have c29 := hrb9.c2; have f29 := blk_frozen hrb9 2
                clear hown hgr hrb9
                refine hK.out _ _ (by exact trivial) (fun hHeld => ?_)
                clear hK K
                (try simp only [Act.put, List.setIfInBounds_toArray, List.set_cons_zero, List.set_cons_succ])
                refine wpAnyH_take (i := 11) (v := ?vb25) (idx_of_drop rfl) (by kernel_rfl) (by kernel_rfl) (by kernel_rfl) (fun _ _ _ h => h) (Or.inl ⟨by rfl, ?yb25⟩) (by assumption) ?rb25
                case yb25 => (intro w hSw; go_simp <;> with_reducible rfl)
                (try simp only [Act.put, List.setIfInBounds_toArray, List.set_cons_zero, List.set_cons_succ])
                refine wpAnyH_take (i := 12) (v := ?vb26) (idx_of_drop rfl) (by kernel_rfl) (by kernel_rfl) (by kernel_rfl) (fun _ _ _ h => h) (Or.inl ⟨by rfl, ?yb26⟩) (by assumption) ?rb26
                case yb26 => (intro w hSw; go_simp <;> with_reducible rfl)
                (try simp only [Act.put, List.setIfInBounds_toArray, List.set_cons_zero, List.set_cons_succ])
                refine wpAnyH_ready (rs := [13]) (by kernel_rfl) (by simp) ?_
                refine AllReadyH.cons (idx_of_drop rfl) (fun K hK => ?sb27) ?mb27
                case sb27 =>
                  go_simp
                  refine hK.out _ _ (by exact trivial) (fun hHeld => ?_)
                  clear hK K
                  (try simp only [Act.put, List.setIfInBounds_toArray, List.set_cons_zero, List.set_cons_succ])
                  refine wpAnyH_done (by kernel_rfl) ?_ _
                  go_end0
                  have hS := HR8.out.setS (z := size) G9.out O9.out
                  refine ⟨HW8.out.trans hS.2, ?_⟩
                  have hfp : fileP xs = some (⟨strOf nm, mode, unzig t, []⟩, size, r5) := by unfold fileP; simp only [HN1.out, HCUT.out, HN3.out, if_pos HM.out, HN5.out, HN8.out]
                  rw [hfp]
                  exact ⟨rfl, _, _, _, _, _, hS.1⟩
                exact AllReadyH.nil
              exact AllReadyH.nil
            exact AllReadyH.nil
          exact AllReadyH.nil
        exact AllReadyH.nil
      exact AllReadyH.nil
    exact AllReadyH.nil
  exact AllReadyH.nil
end Go.Proofs.YtlgonkopojancaaDoor
