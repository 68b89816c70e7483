/- The reference's Sort. -/
import Derived.Test.YtlgonkopojancaaDoorFxWpApp
import Derived.Test.YtlgonkopojancaaDoorFxStabW
import Derived.Test.YtlgonkopojancaaDoorFxAwk
import Derived.BigQuiet
namespace Go.Proofs.YtlgonkopojancaaDoor
open Go.RowKit

def AbTo (us : List FV) (x : FV) (p i : Nat) : Prop := ∀ j, p ≤ j → j < i → lt x (us.getD j default) = true
theorem ins_there {X0 us : List FV} {x : FV} {p i : Nat} (hz : StableOf FV.key X0 us) (hl : us.length = i) (hp : p ≤ i) (ha : AbTo us x p i) (hb : p = 0 ∨ lt x (us.getD (p - 1) default) = false) : StableOf FV.key (X0 ++ [x]) (us.take p ++ ([x] ++ us.drop p)) := by
  show StableOf FV.key (X0 ++ [x]) (us.take p ++ x :: us.drop p)
  refine ins_step (P2 := us.drop p) hz (List.take_append_drop p us).symm ?_ (fun y hy => ?_)
  · rcases Nat.eq_zero_or_pos p with h0 | h0
    · left; rw [h0]; rfl
    · right
      refine ⟨us.take (p - 1), us.getD (p - 1) default, ?_, hb.resolve_left (by omega)⟩
      have := List.take_succ_eq_append_getElem (l := us) (i := p - 1) (by omega)
      rw [show p - 1 + 1 = p by omega] at this
      rw [this, getD_eq (by omega)]
  · obtain ⟨j, hj, rfl⟩ := List.getElem_of_mem hy
    rw [List.length_drop] at hj
    have := ha (p + j) (by omega) (by omega)
    rw [getD_eq (by omega)] at this
    rw [List.getElem_drop]
    exact this
theorem own_vr {w : World} {i c : Nat} {A : Option Addr} {us : List FV} (h : w.ownsRow 0 33 4 (.slice A i c) i (flat us)) (hi : i ≤ 9223372036854775807) : VRd w A i us := by
  obtain ⟨A', c', e, hv⟩ := own_vrd h hi
  injection e with e1
  subst e1
  exact hv
theorem vrd_load {w : World} {A : Option Addr} {n j : Nat} {vs : List FV} (h : VRd w A n vs) (hj : j < n) : ∃ b o, A = some ⟨b, o, none⟩ ∧ ∀ w', Below w.heap.size w w' → w'.rangeAt b (o + j * 4) (vs.getD j default).cells ∧ w'.cell? ⟨b, o + j * 4, none⟩ = some (.string (vs.getD j default).f.name) := by
  obtain ⟨b, o, e, hc⟩ := h.2.2 (by omega)
  have hq : ∀ w', Below w.heap.size w w' → w'.rangeAt b (o + j * 4) (vs.getD j default).cells := fun w' hb i u hu => by
    have := hc j hj i u hu
    exact (hb.cell (World.block_lt_of_cell? _ _ this)).trans this
  exact ⟨b, o, e, fun w' hb => ⟨hq w' hb, hq w' hb 0 _ rfl⟩⟩

/-- a row of the call's own, from V on -/
structure Rw (V X : World) (v : Value) (k : Nat) (xs : List FV) : Prop where
  row : X.ownsRow 0 33 4 v k (flat xs)
  fr : From V.heap.size v
  bel : Below V.heap.size V X
theorem rw_lit0 {V X : World} (h : Below V.heap.size V X) : Rw V (X.alloc (.cells #[] 33)) (.slice (some ⟨X.heap.size, 0, none⟩) 0 0) 0 [] :=
  ⟨World.ownsRow_lit X #[] 0 (Nat.zero_le _) (by decide) rfl, fun j hj => by simp [Value.ownBlock] at hj; have := h.size; omega, h.alloc h.size _⟩
theorem Rw.alloc {V X : World} {v : Value} {k : Nat} {xs : List FV} (h : Rw V X v k xs) (o : Obj) : Rw V (X.alloc o) v k xs := ⟨h.row.alloc _, h.fr, h.bel.alloc h.bel.size _⟩
theorem Rw.grow {V X X' : World} {v v' : Value} {k k' : Nat} {xs ys : List FV} (h : Rw V X v k xs) (ho : X'.ownsRow 0 33 4 v' k' (flat xs ++ flat ys)) (hg : Grew v v' X X') : Rw V X' v' k' (xs ++ ys) :=
  ⟨by rw [flat_append]; exact ho, h.fr.grew hg h.bel.size, h.bel.trans (hg.below h.fr h.bel.size)⟩
theorem lt_grow {X X' : World} {L : Nat} {x : FV} {v v' : Value} (h : VRd X (some ⟨L, 0, none⟩) 1 [x]) (hg : Grew v v' X X') (hne : v.ownBlock ≠ some L) : VRd X' (some ⟨L, 0, none⟩) 1 [x] :=
  ⟨h.1, h.2.1, fun hn => by
    obtain ⟨b, o, e, hc⟩ := h.2.2 hn
    injection e with e
    injection e with e1 e2
    subst e1; subst e2
    exact ⟨L, 0, rfl, fun j hj i u hu => hg.fr.cell (hc j hj i u hu) (fun e => hne e.symm)⟩⟩
theorem Rw.end {V X : World} {v : Value} {k m : Nat} {xs : List FV} (h : Rw V X v k xs) (hk : k = m) : ∃ A c, v = .slice A m c ∧ X.ownsRow 0 33 4 (.slice A m c) m (flat xs) := by
  subst hk
  obtain ⟨A, c, rfl⟩ := own_shape h.row
  exact ⟨A, c, rfl, h.row⟩
def RSortPost (fs : List Fi) (n : Nat) (w : World) (e : Ending) (w' : World) : Prop := ∃ gs A' c', e = .returned (.slice A' n c') ∧ StableOf Fi.name fs gs ∧ FRd w' A' n gs ∧ Below w.heap.size w w'
set_option maxRecDepth 20000 in
set_option maxHeartbeats 8000000 in
theorem rsort_any (fs : List Fi) (A : Option Addr) (n c : Nat) (w : World) (hf : FRd w A n fs) (hn : n ≤ 1000000) :
    Calls Tryd.prog 17 #[.slice A n c] w (RSortPost fs n w) := by
  obtain ⟨vs, rfl, hv, hbod⟩ := hf.choose
  have HVS := Lib.hid hv; have HBOD := Lib.hid hbod
  have HL : Hid (vs.length = n) := hv.1
  clear hf hv hbod
  go_enter Tryd.func17, Tryd.ntmps17
  go_wp2_with fail
  go_loopw [3, 4, 5] (fun v3 v4 _ wo => ∃ (i : Nat) (us : List FV) (A3 : Option Addr) (c3 : Nat), v4 = .int .i64 i ∧ v3 = .slice A3 i c3 ∧ (i : Int) ≤ n ∧ Hid (wo.ownsRow 0 33 4 (.slice A3 i c3) i (flat us)) ∧ Hid (StableOf FV.key (vs.take i) us) ∧ Hid (Below w.heap.size w wo)) (fun _ v4 _ _ => n - (intOf v4).toNat)
  case atStart => exact ⟨0, [], none, 0, rfl, rfl, by omega, World.ownsRow_nil _ _ _ _, stable_nil _, Below.refl _ _⟩
  case round =>
    obtain ⟨i, us, A3, c3, rfl, rfl, hin, HO, HST, HB⟩ := hrel
    obtain ⟨wo, hwo⟩ : ∃ x, x = wr := ⟨_, rfl⟩
    subst hwo
    by_cases hi : (i : Int) < n
    · obtain ⟨b, o, rfl, hl1⟩ := vrd_load HVS.out (j := i) (by omega)
      obtain ⟨x, hx⟩ : ∃ x, vs.getD i default = x := ⟨_, rfl⟩
      rw [hx] at hl1
      have HX := Lib.hid hx; have HL1 := Lib.hid hl1
      have hul : us.length = i := by have := HO.out.1; rw [length_flat] at this; omega
      have HUL := Lib.hid hul
      have HV := Lib.hid (own_vr HO.out (by omega))
      have hc := own_cap HO.out
      have HC := Lib.hid hc
      clear hx hl1 hul hc
      go_wp2_with fail
      go_loopw [5] (fun v5 wr => ∃ p : Nat, v5 = .int .i64 p ∧ (p : Int) ≤ i ∧ Hid (AbTo us x p i) ∧ Hid (Same wo wr)) (fun v5 _ => (intOf v5).toNat)
      case atStart => exact ⟨i, rfl, by omega, fun j h1 h2 => absurd h2 (by omega), Fr.refl _ _⟩
      case round =>
        obtain ⟨p, rfl, hpi, HAB, HSM⟩ := hrel
        have hpc : p ≤ c3 := by have := HC.out; omega
        rcases p with _ | p
        · have hb0 : Hid ((0 : Nat) = 0 ∨ lt x (us.getD (0 - 1) default) = false) := (Or.inl rfl : (0 : Nat) = 0 ∨ lt x (us.getD (0 - 1) default) = false)
          go_wp2_with fail
          go_quiet (fail)
          go_wp2_with fail
          rename_i nq
          obtain ⟨V, hV⟩ : ∃ V, wr.drewN nq = V := ⟨_, rfl⟩
          have hsv : Same wo V := by rw [← hV]; exact HSM.out.drewN nq
          rw [hV]
          have HBV : Hid (Below w.heap.size w V) := HB.out.trans ((below_fr hsv).mono HB.out.size)
          have HXL : Hid (∀ w', Below V.heap.size V w' → w'.rangeAt b (o + i * 4) x.cells) := (fun w' hb => (HL1.out w' (HBV.out.trans (hb.mono HBV.out.size))).1 : ∀ w', Below V.heap.size V w' → w'.rangeAt b (o + i * 4) x.cells)
          have HVV := Lib.hid (HV.out.same (below_fr hsv))
          have HNEW := Lib.hid (ins_there HST.out HUL.out (by omega) HAB.out (Or.inl rfl))
          clear hsv hV
          refine wp_region_held_drew (S := fun w' => Below V.heap.size V w') (by kernel_rfl) (by exact below_fr (Fr.refl _ V).drew) (fun hHeld => ?_)
          refine wpAnyH_take (i := 1) (v := ?vz1) (idx_of_drop rfl) (by kernel_rfl) (by kernel_rfl) (by kernel_rfl) (fun _ _ _ h => h) (Or.inl ⟨by rfl, ?yz1⟩) (by assumption) ?rz1
          case yz1 => (intro w hSw; go_simp <;> with_reducible rfl)
          (try simp only [Act.put, List.setIfInBounds_toArray, List.set_cons_zero, List.set_cons_succ])
          refine wpAnyH_take (i := 2) (v := ?vz2) (idx_of_drop rfl) (by kernel_rfl) (by kernel_rfl) (by kernel_rfl) (fun _ _ _ h => h) (Or.inl ⟨by rfl, ?yz2⟩) (by assumption) ?rz2
          case yz2 => (intro w hSw; go_simp <;> with_reducible rfl)
          (try simp only [Act.put, List.setIfInBounds_toArray, List.set_cons_zero, List.set_cons_succ])
          refine wpAnyH_take (i := 3) (v := ?vz3) (idx_of_drop rfl) (by kernel_rfl) (by kernel_rfl) (by kernel_rfl) (fun _ _ _ h => h) (Or.inl ⟨by rfl, ?yz3⟩) (by assumption) ?rz3
          case yz3 => (intro w hSw; go_simp <;> with_reducible rfl)
          (try simp only [Act.put, List.setIfInBounds_toArray, List.set_cons_zero, List.set_cons_succ])
          refine wpAnyH_take (i := 5) (v := ?vz4) (idx_of_drop rfl) (by kernel_rfl) (by kernel_rfl) (by kernel_rfl) (fun _ _ _ h => h) (Or.inl ⟨by rfl, ?yz4⟩) (by assumption) ?rz4
          case yz4 => (intro w hSw; go_simp <;> with_reducible rfl)
          (try simp only [Act.put, List.setIfInBounds_toArray, List.set_cons_zero, List.set_cons_succ])
          refine wpAnyH_take (i := 6) (v := ?vz5) (idx_of_drop rfl) (by kernel_rfl) (by kernel_rfl) (by kernel_rfl) (fun _ _ _ h => h) (Or.inl ⟨by rfl, ?yz5⟩) (by assumption) ?rz5
          case yz5 => (intro w hSw; go_simp <;> with_reducible rfl)
          (try simp only [Act.put, List.setIfInBounds_toArray, List.set_cons_zero, List.set_cons_succ])
          refine wpAnyH_take (i := 7) (v := ?vz6) (idx_of_drop rfl) (by kernel_rfl) (by kernel_rfl) (by kernel_rfl) (fun _ _ _ h => h) (Or.inl ⟨by rfl, ?yz6⟩) (by assumption) ?rz6
          case yz6 => (intro w hSw; go_simp <;> with_reducible rfl)
          (try simp only [Act.put, List.setIfInBounds_toArray, List.set_cons_zero, List.set_cons_succ])
          refine wpAnyH_take (i := 8) (v := .agg x.cells.toArray) (idx_of_drop rfl) (by kernel_rfl) (by kernel_rfl) (by kernel_rfl) (fun _ _ _ h => h) (yieldsIf_load_mid (by rfl) 33 (.tmp 39) rfl b (o + i * 4) (by rfl) x.cells _ (fun w hw => HXL.out w hw) Tryd.underlying33 rfl info33s) (by assumption) ?rz7
          (try simp only [Act.put, List.setIfInBounds_toArray, List.set_cons_zero, List.set_cons_succ])
          refine wpAnyH_take (i := 11) (v := ?vz8) (idx_of_drop rfl) (by kernel_rfl) (by kernel_rfl) (by kernel_rfl) (fun _ _ _ h => h) (Or.inl ⟨by rfl, ?yz8⟩) (by assumption) ?rz8
          case yz8 => (intro w hSw; go_simp <;> with_reducible rfl)
          (try simp only [Act.put, List.setIfInBounds_toArray, List.set_cons_zero, List.set_cons_succ])
          refine wpAnyH_take (i := 12) (v := ?vz9) (idx_of_drop rfl) (by kernel_rfl) (by kernel_rfl) (by kernel_rfl) (fun _ _ _ h => h) (Or.inl ⟨by rfl, ?yz9⟩) (by assumption) ?rz9
          case yz9 => (intro w hSw; go_simp <;> with_reducible rfl)
          (try simp only [Act.put, List.setIfInBounds_toArray, List.set_cons_zero, List.set_cons_succ])
          refine wpAnyH_take (i := 13) (v := ?vz10) (idx_of_drop rfl) (by kernel_rfl) (by kernel_rfl) (by kernel_rfl) (fun _ _ _ h => h) (Or.inl ⟨by rfl, ?yz10⟩) (by assumption) ?rz10
          case yz10 => (intro w hSw; go_simp <;> with_reducible rfl)
          (try simp only [Act.put, List.setIfInBounds_toArray, List.set_cons_zero, List.set_cons_succ])
          have BV : Hid (Below V.heap.size V V.drew) := below_fr (Fr.refl _ V).drew
          refine wpAnyH_ready (rs := [0, 9]) (by kernel_rfl) (by simp) ?_
          refine AllReadyH.cons (idx_of_drop rfl) (fun K hK => ?sz11) ?mz11
          case sz11 =>
            go_simp
            have R0 : Hid (Rw V ((V.drew).alloc (.cells #[] 33)) (.slice (some ⟨(V.drew).heap.size, 0, none⟩) 0 0) 0 []) := rw_lit0 BV.out
            refine hK.out _ _ (by exact R0.out.bel) (fun hHeld => ?_)
            clear hK K
            (try simp only [Act.put, List.setIfInBounds_toArray, List.set_cons_zero, List.set_cons_succ])
            refine wpAnyH_ready (rs := [4, 9]) (by kernel_rfl) (by simp) ?_
            refine AllReadyH.cons (idx_of_drop rfl) (fun K hK => ?sz12) ?mz12
            case sz12 =>
              rw [if_pos (by rfl)]
              refine wp_app_rows (.tmp 32) (.tmp 35) rfl _ 0 0 c3 _ (flat []) (us.take 0) (by rfl) (by rfl) (R0.out).row (vrd_upto (HVV.out.same (R0.out).bel) (by omega)) (by omega) ?_
              intro v4 w4 ho hg
              have R4 := Lib.hid ((R0.out).grow ho hg)
              clear ho hg
              refine hK.out _ _ (by exact R4.out.bel) (fun hHeld => ?_)
              clear hK K
              (try simp only [Act.put, List.setIfInBounds_toArray, List.set_cons_zero, List.set_cons_succ])
              refine wpAnyH_ready (rs := [9]) (by kernel_rfl) (by simp) ?_
              refine AllReadyH.cons (idx_of_drop rfl) (fun K hK => ?sz13) ?mz13
              case sz13 =>
                go_simp
                have L9 : Hid (VRd ((w4).alloc (.cells x.cells.toArray 33)) (some ⟨(w4).heap.size, 0, none⟩) 1 [x]) := vrd_lit _ _
                have B9 : Hid (Below V.heap.size V ((w4).alloc (.cells x.cells.toArray 33))) := (R4.out.bel).alloc (R4.out.bel).size _
                refine hK.out _ _ (by exact B9.out) (fun hHeld => ?_)
                clear hK K
                (try simp only [Act.put, List.setIfInBounds_toArray, List.set_cons_zero, List.set_cons_succ])
                refine wpAnyH_ready (rs := [10]) (by kernel_rfl) (by simp) ?_
                refine AllReadyH.cons (idx_of_drop rfl) (fun K hK => ?sz14) ?mz14
                case sz14 =>
                  rw [if_pos (by rfl)]
                  refine wp_app_rows (.tmp 36) (.tmp 41) rfl _ (0 + 0) 1 1 _ (flat ([] ++ us.take 0)) [x] (by rfl) (by rfl) (R4.out.alloc (.cells x.cells.toArray 33)).row L9.out (by omega) ?_
                  intro v10 w10 ho hg
                  have R10 := Lib.hid ((R4.out.alloc (.cells x.cells.toArray 33)).grow ho hg)
                  clear ho hg
                  refine hK.out _ _ (by exact R10.out.bel) (fun hHeld => ?_)
                  clear hK K
                  (try simp only [Act.put, List.setIfInBounds_toArray, List.set_cons_zero, List.set_cons_succ])
                  refine wpAnyH_ready (rs := [14]) (by kernel_rfl) (by simp) ?_
                  refine AllReadyH.cons (idx_of_drop rfl) (fun K hK => ?sz15) ?mz15
                  case sz15 =>
                    rw [if_pos (by rfl)]
                    refine wp_app_rows (.tmp 42) (.tmp 45) rfl _ (0 + 0 + 1) i c3 _ (flat ([] ++ us.take 0 ++ [x])) us (by rfl) (by rfl) R10.out.row (HVV.out.same R10.out.bel) (by omega) ?_
                    intro v14 w14 ho hg
                    have R14 := Lib.hid (R10.out.grow ho hg)
                    clear ho hg
                    refine hK.out _ _ (by exact R14.out.bel) (fun hHeld => ?_)
                    clear hK K
                    (try simp only [Act.put, List.setIfInBounds_toArray, List.set_cons_zero, List.set_cons_succ])
                    refine wpAnyH_take (i := 15) (v := ?vz16) (idx_of_drop rfl) (by kernel_rfl) (by kernel_rfl) (by kernel_rfl) (fun _ _ _ h => h) (Or.inl ⟨by rfl, ?yz16⟩) (by assumption) ?rz16
                    case yz16 => (intro w hSw; go_simp <;> with_reducible rfl)
                    (try simp only [Act.put, List.setIfInBounds_toArray, List.set_cons_zero, List.set_cons_succ])
                    refine wpAnyH_done (by kernel_rfl) ?_ _
                    rename_i hH; clear hH
                    obtain ⟨A14, c14, hv14, hrow⟩ := R14.out.end (m := i + 1) (by omega)
                    subst hv14
                    have HROW : Hid (w14.ownsRow 0 33 4 (.slice A14 (i + 1) c14) (i + 1) (flat (us.take 0 ++ ([x] ++ us.drop 0)))) := (by simpa using hrow : w14.ownsRow 0 33 4 (.slice A14 (i + 1) c14) (i + 1) (flat (us.take 0 ++ ([x] ++ us.drop 0))))
                    have HST2 : Hid (StableOf FV.key (vs.take (i + 1)) (us.take 0 ++ ([x] ++ us.drop 0))) := (by
                      rw [List.take_succ_eq_append_getElem (by have := HL.out; omega), ← getD_eq (by have := HL.out; omega), HX.out]
                      exact HNEW.out : StableOf FV.key (vs.take (i + 1)) (us.take 0 ++ ([x] ++ us.drop 0)))
                    have HB2 := Lib.hid (HBV.out.trans (R14.out.bel.mono HBV.out.size))
                    clear hrow
                    go_wp2_with fail
                    go_roundw
                    case rel => exact ⟨i + 1, us.take 0 ++ ([x] ++ us.drop 0), A14, c14, by go_num, rfl, by omega, HROW.out, HST2.out, HB2.out⟩
                    case measure => simp [intOf]; omega
                  exact AllReadyH.nil
                exact AllReadyH.nil
              exact AllReadyH.nil
            refine AllReadyH.cons (idx_of_drop rfl) (fun K hK => ?sz17) ?mz17
            case sz17 =>
              go_simp
              have L9 : Hid (VRd ((V.drew.alloc (.cells #[] 33)).alloc (.cells x.cells.toArray 33)) (some ⟨(V.drew.alloc (.cells #[] 33)).heap.size, 0, none⟩) 1 [x]) := vrd_lit _ _
              have B9 : Hid (Below V.heap.size V ((V.drew.alloc (.cells #[] 33)).alloc (.cells x.cells.toArray 33))) := (R0.out.bel).alloc (R0.out.bel).size _
              refine hK.out _ _ (by exact B9.out) (fun hHeld => ?_)
              clear hK K
              (try simp only [Act.put, List.setIfInBounds_toArray, List.set_cons_zero, List.set_cons_succ])
              refine wpAnyH_ready (rs := [4]) (by kernel_rfl) (by simp) ?_
              refine AllReadyH.cons (idx_of_drop rfl) (fun K hK => ?sz18) ?mz18
              case sz18 =>
                rw [if_pos (by rfl)]
                refine wp_app_rows (.tmp 32) (.tmp 35) rfl _ 0 0 c3 _ (flat []) (us.take 0) (by rfl) (by rfl) (R0.out.alloc (.cells x.cells.toArray 33)).row (vrd_upto (HVV.out.same (R0.out.alloc (.cells x.cells.toArray 33)).bel) (by omega)) (by omega) ?_
                intro v4 w4 ho hg
                have R4 := Lib.hid ((R0.out.alloc (.cells x.cells.toArray 33)).grow ho hg)
                have L4 := Lib.hid (lt_grow L9.out hg (by simp [Value.ownBlock]))
                clear ho hg
                refine hK.out _ _ (by exact R4.out.bel) (fun hHeld => ?_)
                clear hK K
                (try simp only [Act.put, List.setIfInBounds_toArray, List.set_cons_zero, List.set_cons_succ])
                refine wpAnyH_ready (rs := [10]) (by kernel_rfl) (by simp) ?_
                refine AllReadyH.cons (idx_of_drop rfl) (fun K hK => ?sz19) ?mz19
                case sz19 =>
                  rw [if_pos (by rfl)]
                  refine wp_app_rows (.tmp 36) (.tmp 41) rfl _ (0 + 0) 1 1 _ (flat ([] ++ us.take 0)) [x] (by rfl) (by rfl) (R4.out).row L4.out (by omega) ?_
                  intro v10 w10 ho hg
                  have R10 := Lib.hid ((R4.out).grow ho hg)
                  clear ho hg
                  refine hK.out _ _ (by exact R10.out.bel) (fun hHeld => ?_)
                  clear hK K
                  (try simp only [Act.put, List.setIfInBounds_toArray, List.set_cons_zero, List.set_cons_succ])
                  refine wpAnyH_ready (rs := [14]) (by kernel_rfl) (by simp) ?_
                  refine AllReadyH.cons (idx_of_drop rfl) (fun K hK => ?sz20) ?mz20
                  case sz20 =>
                    rw [if_pos (by rfl)]
                    refine wp_app_rows (.tmp 42) (.tmp 45) rfl _ (0 + 0 + 1) i c3 _ (flat ([] ++ us.take 0 ++ [x])) us (by rfl) (by rfl) R10.out.row (HVV.out.same R10.out.bel) (by omega) ?_
                    intro v14 w14 ho hg
                    have R14 := Lib.hid (R10.out.grow ho hg)
                    clear ho hg
                    refine hK.out _ _ (by exact R14.out.bel) (fun hHeld => ?_)
                    clear hK K
                    (try simp only [Act.put, List.setIfInBounds_toArray, List.set_cons_zero, List.set_cons_succ])
                    refine wpAnyH_take (i := 15) (v := ?vz21) (idx_of_drop rfl) (by kernel_rfl) (by kernel_rfl) (by kernel_rfl) (fun _ _ _ h => h) (Or.inl ⟨by rfl, ?yz21⟩) (by assumption) ?rz21
                    case yz21 => (intro w hSw; go_simp <;> with_reducible rfl)
                    (try simp only [Act.put, List.setIfInBounds_toArray, List.set_cons_zero, List.set_cons_succ])
                    refine wpAnyH_done (by kernel_rfl) ?_ _
                    rename_i hH; clear hH
                    obtain ⟨A14, c14, hv14, hrow⟩ := R14.out.end (m := i + 1) (by omega)
                    subst hv14
                    have HROW : Hid (w14.ownsRow 0 33 4 (.slice A14 (i + 1) c14) (i + 1) (flat (us.take 0 ++ ([x] ++ us.drop 0)))) := (by simpa using hrow : w14.ownsRow 0 33 4 (.slice A14 (i + 1) c14) (i + 1) (flat (us.take 0 ++ ([x] ++ us.drop 0))))
                    have HST2 : Hid (StableOf FV.key (vs.take (i + 1)) (us.take 0 ++ ([x] ++ us.drop 0))) := (by
                      rw [List.take_succ_eq_append_getElem (by have := HL.out; omega), ← getD_eq (by have := HL.out; omega), HX.out]
                      exact HNEW.out : StableOf FV.key (vs.take (i + 1)) (us.take 0 ++ ([x] ++ us.drop 0)))
                    have HB2 := Lib.hid (HBV.out.trans (R14.out.bel.mono HBV.out.size))
                    clear hrow
                    go_wp2_with fail
                    go_roundw
                    case rel => exact ⟨i + 1, us.take 0 ++ ([x] ++ us.drop 0), A14, c14, by go_num, rfl, by omega, HROW.out, HST2.out, HB2.out⟩
                    case measure => simp [intOf]; omega
                  exact AllReadyH.nil
                exact AllReadyH.nil
              exact AllReadyH.nil
            exact AllReadyH.nil
          refine AllReadyH.cons (idx_of_drop rfl) (fun K hK => ?sz22) ?mz22
          case sz22 =>
            go_simp
            have L9 : Hid (VRd ((V.drew).alloc (.cells x.cells.toArray 33)) (some ⟨(V.drew).heap.size, 0, none⟩) 1 [x]) := vrd_lit _ _
            have B9 : Hid (Below V.heap.size V ((V.drew).alloc (.cells x.cells.toArray 33))) := (BV.out).alloc (BV.out).size _
            refine hK.out _ _ (by exact B9.out) (fun hHeld => ?_)
            clear hK K
            (try simp only [Act.put, List.setIfInBounds_toArray, List.set_cons_zero, List.set_cons_succ])
            refine wpAnyH_ready (rs := [0]) (by kernel_rfl) (by simp) ?_
            refine AllReadyH.cons (idx_of_drop rfl) (fun K hK => ?sz23) ?mz23
            case sz23 =>
              go_simp
              have hr0 := rw_lit0 B9.out
              rw [show (V.drew.alloc (.cells x.cells.toArray 33)).heap.size = V.heap.size + 1 by simp] at hr0
              have R0 := Lib.hid hr0
              clear hr0
              refine hK.out _ _ (by exact R0.out.bel) (fun hHeld => ?_)
              clear hK K
              (try simp only [Act.put, List.setIfInBounds_toArray, List.set_cons_zero, List.set_cons_succ])
              refine wpAnyH_ready (rs := [4]) (by kernel_rfl) (by simp) ?_
              refine AllReadyH.cons (idx_of_drop rfl) (fun K hK => ?sz24) ?mz24
              case sz24 =>
                rw [if_pos (by rfl)]
                refine wp_app_rows (.tmp 32) (.tmp 35) rfl _ 0 0 c3 _ (flat []) (us.take 0) (by rfl) (by rfl) (R0.out).row (vrd_upto (HVV.out.same (R0.out).bel) (by omega)) (by omega) ?_
                intro v4 w4 ho hg
                have R4 := Lib.hid ((R0.out).grow ho hg)
                have L4 := Lib.hid (lt_grow (L9.out.same (below_fr ((Fr.refl _ _).alloc _))) hg (by simp [Value.ownBlock]))
                clear ho hg
                refine hK.out _ _ (by exact R4.out.bel) (fun hHeld => ?_)
                clear hK K
                (try simp only [Act.put, List.setIfInBounds_toArray, List.set_cons_zero, List.set_cons_succ])
                refine wpAnyH_ready (rs := [10]) (by kernel_rfl) (by simp) ?_
                refine AllReadyH.cons (idx_of_drop rfl) (fun K hK => ?sz25) ?mz25
                case sz25 =>
                  rw [if_pos (by rfl)]
                  refine wp_app_rows (.tmp 36) (.tmp 41) rfl _ (0 + 0) 1 1 _ (flat ([] ++ us.take 0)) [x] (by rfl) (by rfl) (R4.out).row L4.out (by omega) ?_
                  intro v10 w10 ho hg
                  have R10 := Lib.hid ((R4.out).grow ho hg)
                  clear ho hg
                  refine hK.out _ _ (by exact R10.out.bel) (fun hHeld => ?_)
                  clear hK K
                  (try simp only [Act.put, List.setIfInBounds_toArray, List.set_cons_zero, List.set_cons_succ])
                  refine wpAnyH_ready (rs := [14]) (by kernel_rfl) (by simp) ?_
                  refine AllReadyH.cons (idx_of_drop rfl) (fun K hK => ?sz26) ?mz26
                  case sz26 =>
                    rw [if_pos (by rfl)]
                    refine wp_app_rows (.tmp 42) (.tmp 45) rfl _ (0 + 0 + 1) i c3 _ (flat ([] ++ us.take 0 ++ [x])) us (by rfl) (by rfl) R10.out.row (HVV.out.same R10.out.bel) (by omega) ?_
                    intro v14 w14 ho hg
                    have R14 := Lib.hid (R10.out.grow ho hg)
                    clear ho hg
                    refine hK.out _ _ (by exact R14.out.bel) (fun hHeld => ?_)
                    clear hK K
                    (try simp only [Act.put, List.setIfInBounds_toArray, List.set_cons_zero, List.set_cons_succ])
                    refine wpAnyH_take (i := 15) (v := ?vz27) (idx_of_drop rfl) (by kernel_rfl) (by kernel_rfl) (by kernel_rfl) (fun _ _ _ h => h) (Or.inl ⟨by rfl, ?yz27⟩) (by assumption) ?rz27
                    case yz27 => (intro w hSw; go_simp <;> with_reducible rfl)
                    (try simp only [Act.put, List.setIfInBounds_toArray, List.set_cons_zero, List.set_cons_succ])
                    refine wpAnyH_done (by kernel_rfl) ?_ _
                    rename_i hH; clear hH
                    obtain ⟨A14, c14, hv14, hrow⟩ := R14.out.end (m := i + 1) (by omega)
                    subst hv14
                    have HROW : Hid (w14.ownsRow 0 33 4 (.slice A14 (i + 1) c14) (i + 1) (flat (us.take 0 ++ ([x] ++ us.drop 0)))) := (by simpa using hrow : w14.ownsRow 0 33 4 (.slice A14 (i + 1) c14) (i + 1) (flat (us.take 0 ++ ([x] ++ us.drop 0))))
                    have HST2 : Hid (StableOf FV.key (vs.take (i + 1)) (us.take 0 ++ ([x] ++ us.drop 0))) := (by
                      rw [List.take_succ_eq_append_getElem (by have := HL.out; omega), ← getD_eq (by have := HL.out; omega), HX.out]
                      exact HNEW.out : StableOf FV.key (vs.take (i + 1)) (us.take 0 ++ ([x] ++ us.drop 0)))
                    have HB2 := Lib.hid (HBV.out.trans (R14.out.bel.mono HBV.out.size))
                    clear hrow
                    go_wp2_with fail
                    go_roundw
                    case rel => exact ⟨i + 1, us.take 0 ++ ([x] ++ us.drop 0), A14, c14, by go_num, rfl, by omega, HROW.out, HST2.out, HB2.out⟩
                    case measure => simp [intOf]; omega
                  exact AllReadyH.nil
                exact AllReadyH.nil
              exact AllReadyH.nil
            exact AllReadyH.nil
          exact AllReadyH.nil
        · obtain ⟨b3, o3, rfl, hl3⟩ := vrd_load HV.out (j := p) (by omega)
          have p0 := (hl3 _ (below_fr HSM.out)).2
          have q0 := (HL1.out _ (HB.out.trans ((below_fr HSM.out).mono HB.out.size))).2
          obtain ⟨yn, hyn⟩ : ∃ s, (us.getD p default).f.name = s := ⟨_, rfl⟩
          obtain ⟨xn, hxn⟩ : ∃ s, x.f.name = s := ⟨_, rfl⟩
          rw [hyn] at p0
          rw [hxn] at q0
          have hlt : Hid (lt x (us.getD p default) = lessB xn yn) := (by unfold lt; rw [hyn, hxn] : lt x (us.getD p default) = lessB xn yn)
          clear hl3 hyn hxn
          have hp1 : ((p + 1 : Nat) : Int) = (p : Int) + 1 := by omega
          rw [hp1] at hpi ⊢
          go_wp2_with fail
          rcases hq : Op.bytesLess yn.toList xn.toList with _ | _
          · rcases he : (yn.toList == xn.toList) with _ | _
            · have hgt : lt x (us.getD p default) = true := by
                rw [hlt.out]
                rcases h3 : lessB xn yn with _ | _
                · have := less_total h3 hq
                  rw [this] at he
                  simp at he
                · rfl
              have HAB2 : Hid (AbTo us x p i) := (fun j h1 h2 => by
                by_cases hj : j = p
                · subst hj; exact hgt
                · exact HAB.out j (by omega) h2 : AbTo us x p i)
              clear hgt
              go_quiet (fail)
              go_wp2_with fail
              go_roundw
              case rel => exact ⟨p, by go_num, by omega, HAB2.out, HSM.out.drewN _⟩
              case measure => simp [intOf]
            · have hb0 : Hid (p + 1 = 0 ∨ lt x (us.getD (p + 1 - 1) default) = false) := (Or.inr (by
                rw [Nat.add_sub_cancel, hlt.out]
                have h4 : yn = xn := bytes_ext _ _ (by rw [← ByteArray.toList_eq, ← ByteArray.toList_eq]; exact eq_of_beq he)
                rw [h4]
                exact less_irrefl xn) : p + 1 = 0 ∨ lt x (us.getD (p + 1 - 1) default) = false)
              go_quiet (fail)
              clear p0 q0 hq he
              go_wp2_with fail
              rw [← hp1] at hpi ⊢
              rename_i nq
              obtain ⟨q, hq⟩ : ∃ q, p + 1 = q := ⟨_, rfl⟩
              rw [hq] at hpi hb0 HAB hpc ⊢
              obtain ⟨A4, hA4⟩ : ∃ A4, (some (⟨b3, o3, none⟩ : Addr)) = A4 := ⟨_, rfl⟩
              rw [hA4] at HV ⊢
              clear hlt hp1 HO hA4
              obtain ⟨V, hV⟩ : ∃ V, wr.drewN nq = V := ⟨_, rfl⟩
              have hsv : Same wo V := by rw [← hV]; exact HSM.out.drewN nq
              rw [hV]
              have HBV : Hid (Below w.heap.size w V) := HB.out.trans ((below_fr hsv).mono HB.out.size)
              have HXL : Hid (∀ w', Below V.heap.size V w' → w'.rangeAt b (o + i * 4) x.cells) := (fun w' hb => (HL1.out w' (HBV.out.trans (hb.mono HBV.out.size))).1 : ∀ w', Below V.heap.size V w' → w'.rangeAt b (o + i * 4) x.cells)
              have HVV := Lib.hid (HV.out.same (below_fr hsv))
              have HNEW := Lib.hid (ins_there HST.out HUL.out (by omega) HAB.out hb0.out)
              clear hsv hV
              refine wp_region_held_drew (S := fun w' => Below V.heap.size V w') (by kernel_rfl) (by exact below_fr (Fr.refl _ V).drew) (fun hHeld => ?_)
              refine wpAnyH_take (i := 1) (v := ?vy1) (idx_of_drop rfl) (by kernel_rfl) (by kernel_rfl) (by kernel_rfl) (fun _ _ _ h => h) (Or.inl ⟨by rfl, ?yy1⟩) (by assumption) ?ry1
              case yy1 => (intro w hSw; go_simp <;> with_reducible rfl)
              (try simp only [Act.put, List.setIfInBounds_toArray, List.set_cons_zero, List.set_cons_succ])
              refine wpAnyH_take (i := 2) (v := ?vy2) (idx_of_drop rfl) (by kernel_rfl) (by kernel_rfl) (by kernel_rfl) (fun _ _ _ h => h) (Or.inl ⟨by rfl, ?yy2⟩) (by assumption) ?ry2
              case yy2 => (intro w hSw; go_simp <;> with_reducible rfl)
              (try simp only [Act.put, List.setIfInBounds_toArray, List.set_cons_zero, List.set_cons_succ])
              refine wpAnyH_take (i := 3) (v := ?vy3) (idx_of_drop rfl) (by kernel_rfl) (by kernel_rfl) (by kernel_rfl) (fun _ _ _ h => h) (Or.inl ⟨by rfl, ?yy3⟩) (by assumption) ?ry3
              case yy3 => (intro w hSw; go_simp <;> with_reducible rfl)
              (try simp only [Act.put, List.setIfInBounds_toArray, List.set_cons_zero, List.set_cons_succ])
              refine wpAnyH_take (i := 5) (v := ?vy4) (idx_of_drop rfl) (by kernel_rfl) (by kernel_rfl) (by kernel_rfl) (fun _ _ _ h => h) (Or.inl ⟨by rfl, ?yy4⟩) (by assumption) ?ry4
              case yy4 => (intro w hSw; go_simp <;> with_reducible rfl)
              (try simp only [Act.put, List.setIfInBounds_toArray, List.set_cons_zero, List.set_cons_succ])
              refine wpAnyH_take (i := 6) (v := ?vy5) (idx_of_drop rfl) (by kernel_rfl) (by kernel_rfl) (by kernel_rfl) (fun _ _ _ h => h) (Or.inl ⟨by rfl, ?yy5⟩) (by assumption) ?ry5
              case yy5 => (intro w hSw; go_simp <;> with_reducible rfl)
              (try simp only [Act.put, List.setIfInBounds_toArray, List.set_cons_zero, List.set_cons_succ])
              refine wpAnyH_take (i := 7) (v := ?vy6) (idx_of_drop rfl) (by kernel_rfl) (by kernel_rfl) (by kernel_rfl) (fun _ _ _ h => h) (Or.inl ⟨by rfl, ?yy6⟩) (by assumption) ?ry6
              case yy6 => (intro w hSw; go_simp <;> with_reducible rfl)
              (try simp only [Act.put, List.setIfInBounds_toArray, List.set_cons_zero, List.set_cons_succ])
              refine wpAnyH_take (i := 8) (v := .agg x.cells.toArray) (idx_of_drop rfl) (by kernel_rfl) (by kernel_rfl) (by kernel_rfl) (fun _ _ _ h => h) (yieldsIf_load_mid (by rfl) 33 (.tmp 39) rfl b (o + i * 4) (by rfl) x.cells _ (fun w hw => HXL.out w hw) Tryd.underlying33 rfl info33s) (by assumption) ?ry7
              (try simp only [Act.put, List.setIfInBounds_toArray, List.set_cons_zero, List.set_cons_succ])
              refine wpAnyH_take (i := 11) (v := ?vy8) (idx_of_drop rfl) (by kernel_rfl) (by kernel_rfl) (by kernel_rfl) (fun _ _ _ h => h) (Or.inl ⟨by rfl, ?yy8⟩) (by assumption) ?ry8
              case yy8 => (intro w hSw; go_simp <;> with_reducible rfl)
              (try simp only [Act.put, List.setIfInBounds_toArray, List.set_cons_zero, List.set_cons_succ])
              refine wpAnyH_take (i := 12) (v := ?vy9) (idx_of_drop rfl) (by kernel_rfl) (by kernel_rfl) (by kernel_rfl) (fun _ _ _ h => h) (Or.inl ⟨by rfl, ?yy9⟩) (by assumption) ?ry9
              case yy9 => (intro w hSw; go_simp <;> with_reducible rfl)
              (try simp only [Act.put, List.setIfInBounds_toArray, List.set_cons_zero, List.set_cons_succ])
              refine wpAnyH_take (i := 13) (v := ?vy10) (idx_of_drop rfl) (by kernel_rfl) (by kernel_rfl) (by kernel_rfl) (fun _ _ _ h => h) (Or.inl ⟨by rfl, ?yy10⟩) (by assumption) ?ry10
              case yy10 => (intro w hSw; go_simp <;> with_reducible rfl)
              (try simp only [Act.put, List.setIfInBounds_toArray, List.set_cons_zero, List.set_cons_succ])
              have BV : Hid (Below V.heap.size V V.drew) := below_fr (Fr.refl _ V).drew
              refine wpAnyH_ready (rs := [0, 9]) (by kernel_rfl) (by simp) ?_
              refine AllReadyH.cons (idx_of_drop rfl) (fun K hK => ?sy11) ?my11
              case sy11 =>
                go_simp
                have R0 : Hid (Rw V ((V.drew).alloc (.cells #[] 33)) (.slice (some ⟨(V.drew).heap.size, 0, none⟩) 0 0) 0 []) := rw_lit0 BV.out
                refine hK.out _ _ (by exact R0.out.bel) (fun hHeld => ?_)
                clear hK K
                (try simp only [Act.put, List.setIfInBounds_toArray, List.set_cons_zero, List.set_cons_succ])
                refine wpAnyH_ready (rs := [4, 9]) (by kernel_rfl) (by simp) ?_
                refine AllReadyH.cons (idx_of_drop rfl) (fun K hK => ?sy12) ?my12
                case sy12 =>
                  rw [if_pos (by rfl)]
                  refine wp_app_rows (.tmp 32) (.tmp 35) rfl _ 0 q c3 _ (flat []) (us.take q) (by rfl) (by rfl) (R0.out).row (vrd_upto (HVV.out.same (R0.out).bel) (by omega)) (by omega) ?_
                  intro v4 w4 ho hg
                  have R4 := Lib.hid ((R0.out).grow ho hg)
                  clear ho hg
                  refine hK.out _ _ (by exact R4.out.bel) (fun hHeld => ?_)
                  clear hK K
                  (try simp only [Act.put, List.setIfInBounds_toArray, List.set_cons_zero, List.set_cons_succ])
                  refine wpAnyH_ready (rs := [9]) (by kernel_rfl) (by simp) ?_
                  refine AllReadyH.cons (idx_of_drop rfl) (fun K hK => ?sy13) ?my13
                  case sy13 =>
                    go_simp
                    have L9 : Hid (VRd ((w4).alloc (.cells x.cells.toArray 33)) (some ⟨(w4).heap.size, 0, none⟩) 1 [x]) := vrd_lit _ _
                    have B9 : Hid (Below V.heap.size V ((w4).alloc (.cells x.cells.toArray 33))) := (R4.out.bel).alloc (R4.out.bel).size _
                    refine hK.out _ _ (by exact B9.out) (fun hHeld => ?_)
                    clear hK K
                    (try simp only [Act.put, List.setIfInBounds_toArray, List.set_cons_zero, List.set_cons_succ])
                    refine wpAnyH_ready (rs := [10]) (by kernel_rfl) (by simp) ?_
                    refine AllReadyH.cons (idx_of_drop rfl) (fun K hK => ?sy14) ?my14
                    case sy14 =>
                      rw [if_pos (by rfl)]
                      refine wp_app_rows (.tmp 36) (.tmp 41) rfl _ (0 + q) 1 1 _ (flat ([] ++ us.take q)) [x] (by rfl) (by rfl) (R4.out.alloc (.cells x.cells.toArray 33)).row L9.out (by omega) ?_
                      intro v10 w10 ho hg
                      have R10 := Lib.hid ((R4.out.alloc (.cells x.cells.toArray 33)).grow ho hg)
                      clear ho hg
                      refine hK.out _ _ (by exact R10.out.bel) (fun hHeld => ?_)
                      clear hK K
                      (try simp only [Act.put, List.setIfInBounds_toArray, List.set_cons_zero, List.set_cons_succ])
                      refine wpAnyH_ready (rs := [14]) (by kernel_rfl) (by simp) ?_
                      refine AllReadyH.cons (idx_of_drop rfl) (fun K hK => ?sy15) ?my15
                      case sy15 =>
                        rw [if_pos (by rfl)]
                        refine wp_app_rows (.tmp 42) (.tmp 45) rfl _ (0 + q + 1) (i - q) (c3 - q) _ (flat ([] ++ us.take q ++ [x])) (us.drop q) (by rfl) (by rfl) R10.out.row (vrd_after (HVV.out.same R10.out.bel) HC.out.1 (by omega)) (by omega) ?_
                        intro v14 w14 ho hg
                        have R14 := Lib.hid (R10.out.grow ho hg)
                        clear ho hg
                        refine hK.out _ _ (by exact R14.out.bel) (fun hHeld => ?_)
                        clear hK K
                        (try simp only [Act.put, List.setIfInBounds_toArray, List.set_cons_zero, List.set_cons_succ])
                        refine wpAnyH_take (i := 15) (v := ?vy16) (idx_of_drop rfl) (by kernel_rfl) (by kernel_rfl) (by kernel_rfl) (fun _ _ _ h => h) (Or.inl ⟨by rfl, ?yy16⟩) (by assumption) ?ry16
                        case yy16 => (intro w hSw; go_simp <;> with_reducible rfl)
                        (try simp only [Act.put, List.setIfInBounds_toArray, List.set_cons_zero, List.set_cons_succ])
                        refine wpAnyH_done (by kernel_rfl) ?_ _
                        rename_i hH; clear hH
                        obtain ⟨A14, c14, hv14, hrow⟩ := R14.out.end (m := i + 1) (by omega)
                        subst hv14
                        have HROW : Hid (w14.ownsRow 0 33 4 (.slice A14 (i + 1) c14) (i + 1) (flat (us.take q ++ ([x] ++ us.drop q)))) := (by simpa using hrow : w14.ownsRow 0 33 4 (.slice A14 (i + 1) c14) (i + 1) (flat (us.take q ++ ([x] ++ us.drop q))))
                        have HST2 : Hid (StableOf FV.key (vs.take (i + 1)) (us.take q ++ ([x] ++ us.drop q))) := (by
                          rw [List.take_succ_eq_append_getElem (by have := HL.out; omega), ← getD_eq (by have := HL.out; omega), HX.out]
                          exact HNEW.out : StableOf FV.key (vs.take (i + 1)) (us.take q ++ ([x] ++ us.drop q)))
                        have HB2 := Lib.hid (HBV.out.trans (R14.out.bel.mono HBV.out.size))
                        clear hrow
                        obtain ⟨AX, hAX⟩ : ∃ AX, (if c3 = q then A4 else Option.map (fun x => x.add (q * 4)) A4) = AX := ⟨_, rfl⟩
                        rw [hAX]
                        clear hAX
                        go_wp2_with fail
                        go_roundw
                        case rel => exact ⟨i + 1, us.take q ++ ([x] ++ us.drop q), A14, c14, by go_num, rfl, by omega, HROW.out, HST2.out, HB2.out⟩
                        case measure => simp [intOf]; omega
                      exact AllReadyH.nil
                    exact AllReadyH.nil
                  exact AllReadyH.nil
                refine AllReadyH.cons (idx_of_drop rfl) (fun K hK => ?sy17) ?my17
                case sy17 =>
                  go_simp
                  have L9 : Hid (VRd ((V.drew.alloc (.cells #[] 33)).alloc (.cells x.cells.toArray 33)) (some ⟨(V.drew.alloc (.cells #[] 33)).heap.size, 0, none⟩) 1 [x]) := vrd_lit _ _
                  have B9 : Hid (Below V.heap.size V ((V.drew.alloc (.cells #[] 33)).alloc (.cells x.cells.toArray 33))) := (R0.out.bel).alloc (R0.out.bel).size _
                  refine hK.out _ _ (by exact B9.out) (fun hHeld => ?_)
                  clear hK K
                  (try simp only [Act.put, List.setIfInBounds_toArray, List.set_cons_zero, List.set_cons_succ])
                  refine wpAnyH_ready (rs := [4]) (by kernel_rfl) (by simp) ?_
                  refine AllReadyH.cons (idx_of_drop rfl) (fun K hK => ?sy18) ?my18
                  case sy18 =>
                    rw [if_pos (by rfl)]
                    refine wp_app_rows (.tmp 32) (.tmp 35) rfl _ 0 q c3 _ (flat []) (us.take q) (by rfl) (by rfl) (R0.out.alloc (.cells x.cells.toArray 33)).row (vrd_upto (HVV.out.same (R0.out.alloc (.cells x.cells.toArray 33)).bel) (by omega)) (by omega) ?_
                    intro v4 w4 ho hg
                    have R4 := Lib.hid ((R0.out.alloc (.cells x.cells.toArray 33)).grow ho hg)
                    have L4 := Lib.hid (lt_grow L9.out hg (by simp [Value.ownBlock]))
                    clear ho hg
                    refine hK.out _ _ (by exact R4.out.bel) (fun hHeld => ?_)
                    clear hK K
                    (try simp only [Act.put, List.setIfInBounds_toArray, List.set_cons_zero, List.set_cons_succ])
                    refine wpAnyH_ready (rs := [10]) (by kernel_rfl) (by simp) ?_
                    refine AllReadyH.cons (idx_of_drop rfl) (fun K hK => ?sy19) ?my19
                    case sy19 =>
                      rw [if_pos (by rfl)]
                      refine wp_app_rows (.tmp 36) (.tmp 41) rfl _ (0 + q) 1 1 _ (flat ([] ++ us.take q)) [x] (by rfl) (by rfl) (R4.out).row L4.out (by omega) ?_
                      intro v10 w10 ho hg
                      have R10 := Lib.hid ((R4.out).grow ho hg)
                      clear ho hg
                      refine hK.out _ _ (by exact R10.out.bel) (fun hHeld => ?_)
                      clear hK K
                      (try simp only [Act.put, List.setIfInBounds_toArray, List.set_cons_zero, List.set_cons_succ])
                      refine wpAnyH_ready (rs := [14]) (by kernel_rfl) (by simp) ?_
                      refine AllReadyH.cons (idx_of_drop rfl) (fun K hK => ?sy20) ?my20
                      case sy20 =>
                        rw [if_pos (by rfl)]
                        refine wp_app_rows (.tmp 42) (.tmp 45) rfl _ (0 + q + 1) (i - q) (c3 - q) _ (flat ([] ++ us.take q ++ [x])) (us.drop q) (by rfl) (by rfl) R10.out.row (vrd_after (HVV.out.same R10.out.bel) HC.out.1 (by omega)) (by omega) ?_
                        intro v14 w14 ho hg
                        have R14 := Lib.hid (R10.out.grow ho hg)
                        clear ho hg
                        refine hK.out _ _ (by exact R14.out.bel) (fun hHeld => ?_)
                        clear hK K
                        (try simp only [Act.put, List.setIfInBounds_toArray, List.set_cons_zero, List.set_cons_succ])
                        refine wpAnyH_take (i := 15) (v := ?vy21) (idx_of_drop rfl) (by kernel_rfl) (by kernel_rfl) (by kernel_rfl) (fun _ _ _ h => h) (Or.inl ⟨by rfl, ?yy21⟩) (by assumption) ?ry21
                        case yy21 => (intro w hSw; go_simp <;> with_reducible rfl)
                        (try simp only [Act.put, List.setIfInBounds_toArray, List.set_cons_zero, List.set_cons_succ])
                        refine wpAnyH_done (by kernel_rfl) ?_ _
                        rename_i hH; clear hH
                        obtain ⟨A14, c14, hv14, hrow⟩ := R14.out.end (m := i + 1) (by omega)
                        subst hv14
                        have HROW : Hid (w14.ownsRow 0 33 4 (.slice A14 (i + 1) c14) (i + 1) (flat (us.take q ++ ([x] ++ us.drop q)))) := (by simpa using hrow : w14.ownsRow 0 33 4 (.slice A14 (i + 1) c14) (i + 1) (flat (us.take q ++ ([x] ++ us.drop q))))
                        have HST2 : Hid (StableOf FV.key (vs.take (i + 1)) (us.take q ++ ([x] ++ us.drop q))) := (by
                          rw [List.take_succ_eq_append_getElem (by have := HL.out; omega), ← getD_eq (by have := HL.out; omega), HX.out]
                          exact HNEW.out : StableOf FV.key (vs.take (i + 1)) (us.take q ++ ([x] ++ us.drop q)))
                        have HB2 := Lib.hid (HBV.out.trans (R14.out.bel.mono HBV.out.size))
                        clear hrow
                        obtain ⟨AX, hAX⟩ : ∃ AX, (if c3 = q then A4 else Option.map (fun x => x.add (q * 4)) A4) = AX := ⟨_, rfl⟩
                        rw [hAX]
                        clear hAX
                        go_wp2_with fail
                        go_roundw
                        case rel => exact ⟨i + 1, us.take q ++ ([x] ++ us.drop q), A14, c14, by go_num, rfl, by omega, HROW.out, HST2.out, HB2.out⟩
                        case measure => simp [intOf]; omega
                      exact AllReadyH.nil
                    exact AllReadyH.nil
                  exact AllReadyH.nil
                exact AllReadyH.nil
              refine AllReadyH.cons (idx_of_drop rfl) (fun K hK => ?sy22) ?my22
              case sy22 =>
                go_simp
                have L9 : Hid (VRd ((V.drew).alloc (.cells x.cells.toArray 33)) (some ⟨(V.drew).heap.size, 0, none⟩) 1 [x]) := vrd_lit _ _
                have B9 : Hid (Below V.heap.size V ((V.drew).alloc (.cells x.cells.toArray 33))) := (BV.out).alloc (BV.out).size _
                refine hK.out _ _ (by exact B9.out) (fun hHeld => ?_)
                clear hK K
                (try simp only [Act.put, List.setIfInBounds_toArray, List.set_cons_zero, List.set_cons_succ])
                refine wpAnyH_ready (rs := [0]) (by kernel_rfl) (by simp) ?_
                refine AllReadyH.cons (idx_of_drop rfl) (fun K hK => ?sy23) ?my23
                case sy23 =>
                  go_simp
                  have hr0 := rw_lit0 B9.out
                  rw [show (V.drew.alloc (.cells x.cells.toArray 33)).heap.size = V.heap.size + 1 by simp] at hr0
                  have R0 := Lib.hid hr0
                  clear hr0
                  refine hK.out _ _ (by exact R0.out.bel) (fun hHeld => ?_)
                  clear hK K
                  (try simp only [Act.put, List.setIfInBounds_toArray, List.set_cons_zero, List.set_cons_succ])
                  refine wpAnyH_ready (rs := [4]) (by kernel_rfl) (by simp) ?_
                  refine AllReadyH.cons (idx_of_drop rfl) (fun K hK => ?sy24) ?my24
                  case sy24 =>
                    rw [if_pos (by rfl)]
                    refine wp_app_rows (.tmp 32) (.tmp 35) rfl _ 0 q c3 _ (flat []) (us.take q) (by rfl) (by rfl) (R0.out).row (vrd_upto (HVV.out.same (R0.out).bel) (by omega)) (by omega) ?_
                    intro v4 w4 ho hg
                    have R4 := Lib.hid ((R0.out).grow ho hg)
                    have L4 := Lib.hid (lt_grow (L9.out.same (below_fr ((Fr.refl _ _).alloc _))) hg (by simp [Value.ownBlock]))
                    clear ho hg
                    refine hK.out _ _ (by exact R4.out.bel) (fun hHeld => ?_)
                    clear hK K
                    (try simp only [Act.put, List.setIfInBounds_toArray, List.set_cons_zero, List.set_cons_succ])
                    refine wpAnyH_ready (rs := [10]) (by kernel_rfl) (by simp) ?_
                    refine AllReadyH.cons (idx_of_drop rfl) (fun K hK => ?sy25) ?my25
                    case sy25 =>
                      rw [if_pos (by rfl)]
                      refine wp_app_rows (.tmp 36) (.tmp 41) rfl _ (0 + q) 1 1 _ (flat ([] ++ us.take q)) [x] (by rfl) (by rfl) (R4.out).row L4.out (by omega) ?_
                      intro v10 w10 ho hg
                      have R10 := Lib.hid ((R4.out).grow ho hg)
                      clear ho hg
                      refine hK.out _ _ (by exact R10.out.bel) (fun hHeld => ?_)
                      clear hK K
                      (try simp only [Act.put, List.setIfInBounds_toArray, List.set_cons_zero, List.set_cons_succ])
                      refine wpAnyH_ready (rs := [14]) (by kernel_rfl) (by simp) ?_
                      refine AllReadyH.cons (idx_of_drop rfl) (fun K hK => ?sy26) ?my26
                      case sy26 =>
                        rw [if_pos (by rfl)]
                        refine wp_app_rows (.tmp 42) (.tmp 45) rfl _ (0 + q + 1) (i - q) (c3 - q) _ (flat ([] ++ us.take q ++ [x])) (us.drop q) (by rfl) (by rfl) R10.out.row (vrd_after (HVV.out.same R10.out.bel) HC.out.1 (by omega)) (by omega) ?_
                        intro v14 w14 ho hg
                        have R14 := Lib.hid (R10.out.grow ho hg)
                        clear ho hg
                        refine hK.out _ _ (by exact R14.out.bel) (fun hHeld => ?_)
                        clear hK K
                        (try simp only [Act.put, List.setIfInBounds_toArray, List.set_cons_zero, List.set_cons_succ])
                        refine wpAnyH_take (i := 15) (v := ?vy27) (idx_of_drop rfl) (by kernel_rfl) (by kernel_rfl) (by kernel_rfl) (fun _ _ _ h => h) (Or.inl ⟨by rfl, ?yy27⟩) (by assumption) ?ry27
                        case yy27 => (intro w hSw; go_simp <;> with_reducible rfl)
                        (try simp only [Act.put, List.setIfInBounds_toArray, List.set_cons_zero, List.set_cons_succ])
                        refine wpAnyH_done (by kernel_rfl) ?_ _
                        rename_i hH; clear hH
                        obtain ⟨A14, c14, hv14, hrow⟩ := R14.out.end (m := i + 1) (by omega)
                        subst hv14
                        have HROW : Hid (w14.ownsRow 0 33 4 (.slice A14 (i + 1) c14) (i + 1) (flat (us.take q ++ ([x] ++ us.drop q)))) := (by simpa using hrow : w14.ownsRow 0 33 4 (.slice A14 (i + 1) c14) (i + 1) (flat (us.take q ++ ([x] ++ us.drop q))))
                        have HST2 : Hid (StableOf FV.key (vs.take (i + 1)) (us.take q ++ ([x] ++ us.drop q))) := (by
                          rw [List.take_succ_eq_append_getElem (by have := HL.out; omega), ← getD_eq (by have := HL.out; omega), HX.out]
                          exact HNEW.out : StableOf FV.key (vs.take (i + 1)) (us.take q ++ ([x] ++ us.drop q)))
                        have HB2 := Lib.hid (HBV.out.trans (R14.out.bel.mono HBV.out.size))
                        clear hrow
                        obtain ⟨AX, hAX⟩ : ∃ AX, (if c3 = q then A4 else Option.map (fun x => x.add (q * 4)) A4) = AX := ⟨_, rfl⟩
                        rw [hAX]
                        clear hAX
                        go_wp2_with fail
                        go_roundw
                        case rel => exact ⟨i + 1, us.take q ++ ([x] ++ us.drop q), A14, c14, by go_num, rfl, by omega, HROW.out, HST2.out, HB2.out⟩
                        case measure => simp [intOf]; omega
                      exact AllReadyH.nil
                    exact AllReadyH.nil
                  exact AllReadyH.nil
                exact AllReadyH.nil
              exact AllReadyH.nil
          · have hb0 : Hid (p + 1 = 0 ∨ lt x (us.getD (p + 1 - 1) default) = false) := (Or.inr (by
              rw [Nat.add_sub_cancel, hlt.out]
              exact less_asymm hq) : p + 1 = 0 ∨ lt x (us.getD (p + 1 - 1) default) = false)
            go_quiet (fail)
            clear p0 q0 hq
            go_wp2_with fail
            rw [← hp1] at hpi ⊢
            rename_i nq
            obtain ⟨q, hq⟩ : ∃ q, p + 1 = q := ⟨_, rfl⟩
            rw [hq] at hpi hb0 HAB hpc ⊢
            obtain ⟨A4, hA4⟩ : ∃ A4, (some (⟨b3, o3, none⟩ : Addr)) = A4 := ⟨_, rfl⟩
            rw [hA4] at HV ⊢
            clear hlt hp1 HO hA4
            obtain ⟨V, hV⟩ : ∃ V, wr.drewN nq = V := ⟨_, rfl⟩
            have hsv : Same wo V := by rw [← hV]; exact HSM.out.drewN nq
            rw [hV]
            have HBV : Hid (Below w.heap.size w V) := HB.out.trans ((below_fr hsv).mono HB.out.size)
            have HXL : Hid (∀ w', Below V.heap.size V w' → w'.rangeAt b (o + i * 4) x.cells) := (fun w' hb => (HL1.out w' (HBV.out.trans (hb.mono HBV.out.size))).1 : ∀ w', Below V.heap.size V w' → w'.rangeAt b (o + i * 4) x.cells)
            have HVV := Lib.hid (HV.out.same (below_fr hsv))
            have HNEW := Lib.hid (ins_there HST.out HUL.out (by omega) HAB.out hb0.out)
            clear hsv hV
            refine wp_region_held_drew (S := fun w' => Below V.heap.size V w') (by kernel_rfl) (by exact below_fr (Fr.refl _ V).drew) (fun hHeld => ?_)
            refine wpAnyH_take (i := 1) (v := ?vu1) (idx_of_drop rfl) (by kernel_rfl) (by kernel_rfl) (by kernel_rfl) (fun _ _ _ h => h) (Or.inl ⟨by rfl, ?yu1⟩) (by assumption) ?ru1
            case yu1 => (intro w hSw; go_simp <;> with_reducible rfl)
            (try simp only [Act.put, List.setIfInBounds_toArray, List.set_cons_zero, List.set_cons_succ])
            refine wpAnyH_take (i := 2) (v := ?vu2) (idx_of_drop rfl) (by kernel_rfl) (by kernel_rfl) (by kernel_rfl) (fun _ _ _ h => h) (Or.inl ⟨by rfl, ?yu2⟩) (by assumption) ?ru2
            case yu2 => (intro w hSw; go_simp <;> with_reducible rfl)
            (try simp only [Act.put, List.setIfInBounds_toArray, List.set_cons_zero, List.set_cons_succ])
            refine wpAnyH_take (i := 3) (v := ?vu3) (idx_of_drop rfl) (by kernel_rfl) (by kernel_rfl) (by kernel_rfl) (fun _ _ _ h => h) (Or.inl ⟨by rfl, ?yu3⟩) (by assumption) ?ru3
            case yu3 => (intro w hSw; go_simp <;> with_reducible rfl)
            (try simp only [Act.put, List.setIfInBounds_toArray, List.set_cons_zero, List.set_cons_succ])
            refine wpAnyH_take (i := 5) (v := ?vu4) (idx_of_drop rfl) (by kernel_rfl) (by kernel_rfl) (by kernel_rfl) (fun _ _ _ h => h) (Or.inl ⟨by rfl, ?yu4⟩) (by assumption) ?ru4
            case yu4 => (intro w hSw; go_simp <;> with_reducible rfl)
            (try simp only [Act.put, List.setIfInBounds_toArray, List.set_cons_zero, List.set_cons_succ])
            refine wpAnyH_take (i := 6) (v := ?vu5) (idx_of_drop rfl) (by kernel_rfl) (by kernel_rfl) (by kernel_rfl) (fun _ _ _ h => h) (Or.inl ⟨by rfl, ?yu5⟩) (by assumption) ?ru5
            case yu5 => (intro w hSw; go_simp <;> with_reducible rfl)
            (try simp only [Act.put, List.setIfInBounds_toArray, List.set_cons_zero, List.set_cons_succ])
            refine wpAnyH_take (i := 7) (v := ?vu6) (idx_of_drop rfl) (by kernel_rfl) (by kernel_rfl) (by kernel_rfl) (fun _ _ _ h => h) (Or.inl ⟨by rfl, ?yu6⟩) (by assumption) ?ru6
            case yu6 => (intro w hSw; go_simp <;> with_reducible rfl)
            (try simp only [Act.put, List.setIfInBounds_toArray, List.set_cons_zero, List.set_cons_succ])
            refine wpAnyH_take (i := 8) (v := .agg x.cells.toArray) (idx_of_drop rfl) (by kernel_rfl) (by kernel_rfl) (by kernel_rfl) (fun _ _ _ h => h) (yieldsIf_load_mid (by rfl) 33 (.tmp 39) rfl b (o + i * 4) (by rfl) x.cells _ (fun w hw => HXL.out w hw) Tryd.underlying33 rfl info33s) (by assumption) ?ru7
            (try simp only [Act.put, List.setIfInBounds_toArray, List.set_cons_zero, List.set_cons_succ])
            refine wpAnyH_take (i := 11) (v := ?vu8) (idx_of_drop rfl) (by kernel_rfl) (by kernel_rfl) (by kernel_rfl) (fun _ _ _ h => h) (Or.inl ⟨by rfl, ?yu8⟩) (by assumption) ?ru8
            case yu8 => (intro w hSw; go_simp <;> with_reducible rfl)
            (try simp only [Act.put, List.setIfInBounds_toArray, List.set_cons_zero, List.set_cons_succ])
            refine wpAnyH_take (i := 12) (v := ?vu9) (idx_of_drop rfl) (by kernel_rfl) (by kernel_rfl) (by kernel_rfl) (fun _ _ _ h => h) (Or.inl ⟨by rfl, ?yu9⟩) (by assumption) ?ru9
            case yu9 => (intro w hSw; go_simp <;> with_reducible rfl)
            (try simp only [Act.put, List.setIfInBounds_toArray, List.set_cons_zero, List.set_cons_succ])
            refine wpAnyH_take (i := 13) (v := ?vu10) (idx_of_drop rfl) (by kernel_rfl) (by kernel_rfl) (by kernel_rfl) (fun _ _ _ h => h) (Or.inl ⟨by rfl, ?yu10⟩) (by assumption) ?ru10
            case yu10 => (intro w hSw; go_simp <;> with_reducible rfl)
            (try simp only [Act.put, List.setIfInBounds_toArray, List.set_cons_zero, List.set_cons_succ])
            have BV : Hid (Below V.heap.size V V.drew) := below_fr (Fr.refl _ V).drew
            refine wpAnyH_ready (rs := [0, 9]) (by kernel_rfl) (by simp) ?_
            refine AllReadyH.cons (idx_of_drop rfl) (fun K hK => ?su11) ?mu11
            case su11 =>
              go_simp
              have R0 : Hid (Rw V ((V.drew).alloc (.cells #[] 33)) (.slice (some ⟨(V.drew).heap.size, 0, none⟩) 0 0) 0 []) := rw_lit0 BV.out
              refine hK.out _ _ (by exact R0.out.bel) (fun hHeld => ?_)
              clear hK K
              (try simp only [Act.put, List.setIfInBounds_toArray, List.set_cons_zero, List.set_cons_succ])
              refine wpAnyH_ready (rs := [4, 9]) (by kernel_rfl) (by simp) ?_
              refine AllReadyH.cons (idx_of_drop rfl) (fun K hK => ?su12) ?mu12
              case su12 =>
                rw [if_pos (by rfl)]
                refine wp_app_rows (.tmp 32) (.tmp 35) rfl _ 0 q c3 _ (flat []) (us.take q) (by rfl) (by rfl) (R0.out).row (vrd_upto (HVV.out.same (R0.out).bel) (by omega)) (by omega) ?_
                intro v4 w4 ho hg
                have R4 := Lib.hid ((R0.out).grow ho hg)
                clear ho hg
                refine hK.out _ _ (by exact R4.out.bel) (fun hHeld => ?_)
                clear hK K
                (try simp only [Act.put, List.setIfInBounds_toArray, List.set_cons_zero, List.set_cons_succ])
                refine wpAnyH_ready (rs := [9]) (by kernel_rfl) (by simp) ?_
                refine AllReadyH.cons (idx_of_drop rfl) (fun K hK => ?su13) ?mu13
                case su13 =>
                  go_simp
                  have L9 : Hid (VRd ((w4).alloc (.cells x.cells.toArray 33)) (some ⟨(w4).heap.size, 0, none⟩) 1 [x]) := vrd_lit _ _
                  have B9 : Hid (Below V.heap.size V ((w4).alloc (.cells x.cells.toArray 33))) := (R4.out.bel).alloc (R4.out.bel).size _
                  refine hK.out _ _ (by exact B9.out) (fun hHeld => ?_)
                  clear hK K
                  (try simp only [Act.put, List.setIfInBounds_toArray, List.set_cons_zero, List.set_cons_succ])
                  refine wpAnyH_ready (rs := [10]) (by kernel_rfl) (by simp) ?_
                  refine AllReadyH.cons (idx_of_drop rfl) (fun K hK => ?su14) ?mu14
                  case su14 =>
                    rw [if_pos (by rfl)]
                    refine wp_app_rows (.tmp 36) (.tmp 41) rfl _ (0 + q) 1 1 _ (flat ([] ++ us.take q)) [x] (by rfl) (by rfl) (R4.out.alloc (.cells x.cells.toArray 33)).row L9.out (by omega) ?_
                    intro v10 w10 ho hg
                    have R10 := Lib.hid ((R4.out.alloc (.cells x.cells.toArray 33)).grow ho hg)
                    clear ho hg
                    refine hK.out _ _ (by exact R10.out.bel) (fun hHeld => ?_)
                    clear hK K
                    (try simp only [Act.put, List.setIfInBounds_toArray, List.set_cons_zero, List.set_cons_succ])
                    refine wpAnyH_ready (rs := [14]) (by kernel_rfl) (by simp) ?_
                    refine AllReadyH.cons (idx_of_drop rfl) (fun K hK => ?su15) ?mu15
                    case su15 =>
                      rw [if_pos (by rfl)]
                      refine wp_app_rows (.tmp 42) (.tmp 45) rfl _ (0 + q + 1) (i - q) (c3 - q) _ (flat ([] ++ us.take q ++ [x])) (us.drop q) (by rfl) (by rfl) R10.out.row (vrd_after (HVV.out.same R10.out.bel) HC.out.1 (by omega)) (by omega) ?_
                      intro v14 w14 ho hg
                      have R14 := Lib.hid (R10.out.grow ho hg)
                      clear ho hg
                      refine hK.out _ _ (by exact R14.out.bel) (fun hHeld => ?_)
                      clear hK K
                      (try simp only [Act.put, List.setIfInBounds_toArray, List.set_cons_zero, List.set_cons_succ])
                      refine wpAnyH_take (i := 15) (v := ?vu16) (idx_of_drop rfl) (by kernel_rfl) (by kernel_rfl) (by kernel_rfl) (fun _ _ _ h => h) (Or.inl ⟨by rfl, ?yu16⟩) (by assumption) ?ru16
                      case yu16 => (intro w hSw; go_simp <;> with_reducible rfl)
                      (try simp only [Act.put, List.setIfInBounds_toArray, List.set_cons_zero, List.set_cons_succ])
                      refine wpAnyH_done (by kernel_rfl) ?_ _
                      rename_i hH; clear hH
                      obtain ⟨A14, c14, hv14, hrow⟩ := R14.out.end (m := i + 1) (by omega)
                      subst hv14
                      have HROW : Hid (w14.ownsRow 0 33 4 (.slice A14 (i + 1) c14) (i + 1) (flat (us.take q ++ ([x] ++ us.drop q)))) := (by simpa using hrow : w14.ownsRow 0 33 4 (.slice A14 (i + 1) c14) (i + 1) (flat (us.take q ++ ([x] ++ us.drop q))))
                      have HST2 : Hid (StableOf FV.key (vs.take (i + 1)) (us.take q ++ ([x] ++ us.drop q))) := (by
                        rw [List.take_succ_eq_append_getElem (by have := HL.out; omega), ← getD_eq (by have := HL.out; omega), HX.out]
                        exact HNEW.out : StableOf FV.key (vs.take (i + 1)) (us.take q ++ ([x] ++ us.drop q)))
                      have HB2 := Lib.hid (HBV.out.trans (R14.out.bel.mono HBV.out.size))
                      clear hrow
                      obtain ⟨AX, hAX⟩ : ∃ AX, (if c3 = q then A4 else Option.map (fun x => x.add (q * 4)) A4) = AX := ⟨_, rfl⟩
                      rw [hAX]
                      clear hAX
                      go_wp2_with fail
                      go_roundw
                      case rel => exact ⟨i + 1, us.take q ++ ([x] ++ us.drop q), A14, c14, by go_num, rfl, by omega, HROW.out, HST2.out, HB2.out⟩
                      case measure => simp [intOf]; omega
                    exact AllReadyH.nil
                  exact AllReadyH.nil
                exact AllReadyH.nil
              refine AllReadyH.cons (idx_of_drop rfl) (fun K hK => ?su17) ?mu17
              case su17 =>
                go_simp
                have L9 : Hid (VRd ((V.drew.alloc (.cells #[] 33)).alloc (.cells x.cells.toArray 33)) (some ⟨(V.drew.alloc (.cells #[] 33)).heap.size, 0, none⟩) 1 [x]) := vrd_lit _ _
                have B9 : Hid (Below V.heap.size V ((V.drew.alloc (.cells #[] 33)).alloc (.cells x.cells.toArray 33))) := (R0.out.bel).alloc (R0.out.bel).size _
                refine hK.out _ _ (by exact B9.out) (fun hHeld => ?_)
                clear hK K
                (try simp only [Act.put, List.setIfInBounds_toArray, List.set_cons_zero, List.set_cons_succ])
                refine wpAnyH_ready (rs := [4]) (by kernel_rfl) (by simp) ?_
                refine AllReadyH.cons (idx_of_drop rfl) (fun K hK => ?su18) ?mu18
                case su18 =>
                  rw [if_pos (by rfl)]
                  refine wp_app_rows (.tmp 32) (.tmp 35) rfl _ 0 q c3 _ (flat []) (us.take q) (by rfl) (by rfl) (R0.out.alloc (.cells x.cells.toArray 33)).row (vrd_upto (HVV.out.same (R0.out.alloc (.cells x.cells.toArray 33)).bel) (by omega)) (by omega) ?_
                  intro v4 w4 ho hg
                  have R4 := Lib.hid ((R0.out.alloc (.cells x.cells.toArray 33)).grow ho hg)
                  have L4 := Lib.hid (lt_grow L9.out hg (by simp [Value.ownBlock]))
                  clear ho hg
                  refine hK.out _ _ (by exact R4.out.bel) (fun hHeld => ?_)
                  clear hK K
                  (try simp only [Act.put, List.setIfInBounds_toArray, List.set_cons_zero, List.set_cons_succ])
                  refine wpAnyH_ready (rs := [10]) (by kernel_rfl) (by simp) ?_
                  refine AllReadyH.cons (idx_of_drop rfl) (fun K hK => ?su19) ?mu19
                  case su19 =>
                    rw [if_pos (by rfl)]
                    refine wp_app_rows (.tmp 36) (.tmp 41) rfl _ (0 + q) 1 1 _ (flat ([] ++ us.take q)) [x] (by rfl) (by rfl) (R4.out).row L4.out (by omega) ?_
                    intro v10 w10 ho hg
                    have R10 := Lib.hid ((R4.out).grow ho hg)
                    clear ho hg
                    refine hK.out _ _ (by exact R10.out.bel) (fun hHeld => ?_)
                    clear hK K
                    (try simp only [Act.put, List.setIfInBounds_toArray, List.set_cons_zero, List.set_cons_succ])
                    refine wpAnyH_ready (rs := [14]) (by kernel_rfl) (by simp) ?_
                    refine AllReadyH.cons (idx_of_drop rfl) (fun K hK => ?su20) ?mu20
                    case su20 =>
                      rw [if_pos (by rfl)]
                      refine wp_app_rows (.tmp 42) (.tmp 45) rfl _ (0 + q + 1) (i - q) (c3 - q) _ (flat ([] ++ us.take q ++ [x])) (us.drop q) (by rfl) (by rfl) R10.out.row (vrd_after (HVV.out.same R10.out.bel) HC.out.1 (by omega)) (by omega) ?_
                      intro v14 w14 ho hg
                      have R14 := Lib.hid (R10.out.grow ho hg)
                      clear ho hg
                      refine hK.out _ _ (by exact R14.out.bel) (fun hHeld => ?_)
                      clear hK K
                      (try simp only [Act.put, List.setIfInBounds_toArray, List.set_cons_zero, List.set_cons_succ])
                      refine wpAnyH_take (i := 15) (v := ?vu21) (idx_of_drop rfl) (by kernel_rfl) (by kernel_rfl) (by kernel_rfl) (fun _ _ _ h => h) (Or.inl ⟨by rfl, ?yu21⟩) (by assumption) ?ru21
                      case yu21 => (intro w hSw; go_simp <;> with_reducible rfl)
                      (try simp only [Act.put, List.setIfInBounds_toArray, List.set_cons_zero, List.set_cons_succ])
                      refine wpAnyH_done (by kernel_rfl) ?_ _
                      rename_i hH; clear hH
                      obtain ⟨A14, c14, hv14, hrow⟩ := R14.out.end (m := i + 1) (by omega)
                      subst hv14
                      have HROW : Hid (w14.ownsRow 0 33 4 (.slice A14 (i + 1) c14) (i + 1) (flat (us.take q ++ ([x] ++ us.drop q)))) := (by simpa using hrow : w14.ownsRow 0 33 4 (.slice A14 (i + 1) c14) (i + 1) (flat (us.take q ++ ([x] ++ us.drop q))))
                      have HST2 : Hid (StableOf FV.key (vs.take (i + 1)) (us.take q ++ ([x] ++ us.drop q))) := (by
                        rw [List.take_succ_eq_append_getElem (by have := HL.out; omega), ← getD_eq (by have := HL.out; omega), HX.out]
                        exact HNEW.out : StableOf FV.key (vs.take (i + 1)) (us.take q ++ ([x] ++ us.drop q)))
                      have HB2 := Lib.hid (HBV.out.trans (R14.out.bel.mono HBV.out.size))
                      clear hrow
                      obtain ⟨AX, hAX⟩ : ∃ AX, (if c3 = q then A4 else Option.map (fun x => x.add (q * 4)) A4) = AX := ⟨_, rfl⟩
                      rw [hAX]
                      clear hAX
                      go_wp2_with fail
                      go_roundw
                      case rel => exact ⟨i + 1, us.take q ++ ([x] ++ us.drop q), A14, c14, by go_num, rfl, by omega, HROW.out, HST2.out, HB2.out⟩
                      case measure => simp [intOf]; omega
                    exact AllReadyH.nil
                  exact AllReadyH.nil
                exact AllReadyH.nil
              exact AllReadyH.nil
            refine AllReadyH.cons (idx_of_drop rfl) (fun K hK => ?su22) ?mu22
            case su22 =>
              go_simp
              have L9 : Hid (VRd ((V.drew).alloc (.cells x.cells.toArray 33)) (some ⟨(V.drew).heap.size, 0, none⟩) 1 [x]) := vrd_lit _ _
              have B9 : Hid (Below V.heap.size V ((V.drew).alloc (.cells x.cells.toArray 33))) := (BV.out).alloc (BV.out).size _
              refine hK.out _ _ (by exact B9.out) (fun hHeld => ?_)
              clear hK K
              (try simp only [Act.put, List.setIfInBounds_toArray, List.set_cons_zero, List.set_cons_succ])
              refine wpAnyH_ready (rs := [0]) (by kernel_rfl) (by simp) ?_
              refine AllReadyH.cons (idx_of_drop rfl) (fun K hK => ?su23) ?mu23
              case su23 =>
                go_simp
                have hr0 := rw_lit0 B9.out
                rw [show (V.drew.alloc (.cells x.cells.toArray 33)).heap.size = V.heap.size + 1 by simp] at hr0
                have R0 := Lib.hid hr0
                clear hr0
                refine hK.out _ _ (by exact R0.out.bel) (fun hHeld => ?_)
                clear hK K
                (try simp only [Act.put, List.setIfInBounds_toArray, List.set_cons_zero, List.set_cons_succ])
                refine wpAnyH_ready (rs := [4]) (by kernel_rfl) (by simp) ?_
                refine AllReadyH.cons (idx_of_drop rfl) (fun K hK => ?su24) ?mu24
                case su24 =>
                  rw [if_pos (by rfl)]
                  refine wp_app_rows (.tmp 32) (.tmp 35) rfl _ 0 q c3 _ (flat []) (us.take q) (by rfl) (by rfl) (R0.out).row (vrd_upto (HVV.out.same (R0.out).bel) (by omega)) (by omega) ?_
                  intro v4 w4 ho hg
                  have R4 := Lib.hid ((R0.out).grow ho hg)
                  have L4 := Lib.hid (lt_grow (L9.out.same (below_fr ((Fr.refl _ _).alloc _))) hg (by simp [Value.ownBlock]))
                  clear ho hg
                  refine hK.out _ _ (by exact R4.out.bel) (fun hHeld => ?_)
                  clear hK K
                  (try simp only [Act.put, List.setIfInBounds_toArray, List.set_cons_zero, List.set_cons_succ])
                  refine wpAnyH_ready (rs := [10]) (by kernel_rfl) (by simp) ?_
                  refine AllReadyH.cons (idx_of_drop rfl) (fun K hK => ?su25) ?mu25
                  case su25 =>
                    rw [if_pos (by rfl)]
                    refine wp_app_rows (.tmp 36) (.tmp 41) rfl _ (0 + q) 1 1 _ (flat ([] ++ us.take q)) [x] (by rfl) (by rfl) (R4.out).row L4.out (by omega) ?_
                    intro v10 w10 ho hg
                    have R10 := Lib.hid ((R4.out).grow ho hg)
                    clear ho hg
                    refine hK.out _ _ (by exact R10.out.bel) (fun hHeld => ?_)
                    clear hK K
                    (try simp only [Act.put, List.setIfInBounds_toArray, List.set_cons_zero, List.set_cons_succ])
                    refine wpAnyH_ready (rs := [14]) (by kernel_rfl) (by simp) ?_
                    refine AllReadyH.cons (idx_of_drop rfl) (fun K hK => ?su26) ?mu26
                    case su26 =>
                      rw [if_pos (by rfl)]
                      refine wp_app_rows (.tmp 42) (.tmp 45) rfl _ (0 + q + 1) (i - q) (c3 - q) _ (flat ([] ++ us.take q ++ [x])) (us.drop q) (by rfl) (by rfl) R10.out.row (vrd_after (HVV.out.same R10.out.bel) HC.out.1 (by omega)) (by omega) ?_
                      intro v14 w14 ho hg
                      have R14 := Lib.hid (R10.out.grow ho hg)
                      clear ho hg
                      refine hK.out _ _ (by exact R14.out.bel) (fun hHeld => ?_)
                      clear hK K
                      (try simp only [Act.put, List.setIfInBounds_toArray, List.set_cons_zero, List.set_cons_succ])
                      refine wpAnyH_take (i := 15) (v := ?vu27) (idx_of_drop rfl) (by kernel_rfl) (by kernel_rfl) (by kernel_rfl) (fun _ _ _ h => h) (Or.inl ⟨by rfl, ?yu27⟩) (by assumption) ?ru27
                      case yu27 => (intro w hSw; go_simp <;> with_reducible rfl)
                      (try simp only [Act.put, List.setIfInBounds_toArray, List.set_cons_zero, List.set_cons_succ])
                      refine wpAnyH_done (by kernel_rfl) ?_ _
                      rename_i hH; clear hH
                      obtain ⟨A14, c14, hv14, hrow⟩ := R14.out.end (m := i + 1) (by omega)
                      subst hv14
                      have HROW : Hid (w14.ownsRow 0 33 4 (.slice A14 (i + 1) c14) (i + 1) (flat (us.take q ++ ([x] ++ us.drop q)))) := (by simpa using hrow : w14.ownsRow 0 33 4 (.slice A14 (i + 1) c14) (i + 1) (flat (us.take q ++ ([x] ++ us.drop q))))
                      have HST2 : Hid (StableOf FV.key (vs.take (i + 1)) (us.take q ++ ([x] ++ us.drop q))) := (by
                        rw [List.take_succ_eq_append_getElem (by have := HL.out; omega), ← getD_eq (by have := HL.out; omega), HX.out]
                        exact HNEW.out : StableOf FV.key (vs.take (i + 1)) (us.take q ++ ([x] ++ us.drop q)))
                      have HB2 := Lib.hid (HBV.out.trans (R14.out.bel.mono HBV.out.size))
                      clear hrow
                      obtain ⟨AX, hAX⟩ : ∃ AX, (if c3 = q then A4 else Option.map (fun x => x.add (q * 4)) A4) = AX := ⟨_, rfl⟩
                      rw [hAX]
                      clear hAX
                      go_wp2_with fail
                      go_roundw
                      case rel => exact ⟨i + 1, us.take q ++ ([x] ++ us.drop q), A14, c14, by go_num, rfl, by omega, HROW.out, HST2.out, HB2.out⟩
                      case measure => simp [intOf]; omega
                    exact AllReadyH.nil
                  exact AllReadyH.nil
                exact AllReadyH.nil
              exact AllReadyH.nil
            exact AllReadyH.nil
    · have hkn2 : i = n := by omega
      subst hkn2
      have ht : vs.take i = vs := List.take_of_length_le (by have := HL.out; omega)
      rw [ht] at HST
      go_wp2_with fail
      go_ret
      have hbu : Bod wo us := fun u hu => (HBOD.out u (stable_mem FV.key HST.out hu)).same HB.out
      exact ⟨us.map FV.f, A3, c3, rfl, stable_map (f := FV.f) (fun _ => rfl) HST.out, (own_vr HO.out (by omega)).files hbu, HB.out⟩
end Go.Proofs.YtlgonkopojancaaDoor
