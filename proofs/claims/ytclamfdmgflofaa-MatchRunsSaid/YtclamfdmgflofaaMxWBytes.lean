/- The walk of MatchBytes. -/
import Derived.Test.YtclamfdmgflofaaMxWBack
namespace Go.Proofs.Ytclamfdmgflofaa
open Go.RowKit
open Mx

/-- four bytes that are read, as a string -/
def w4 (b : List Int) (i : Nat) : List Int := [b.getD i 0, b.getD (i + 1) 0, b.getD (i + 2) 0, b.getD (i + 3) 0]
theorem w4_iff (b : List Int) (i k : Nat) : w4 b i = w4 b k ↔ eq4 b k i := by
  constructor
  · intro h j hj
    simp only [w4, List.cons.injEq, and_true] at h
    obtain ⟨h0, h1, h2, h3⟩ := h
    rcases (show j = 0 ∨ j = 1 ∨ j = 2 ∨ j = 3 by omega) with rfl | rfl | rfl | rfl
    · exact h0.symm
    · exact h1.symm
    · exact h2.symm
    · exact h3.symm
  · intro h
    have h0 := h 0 (by omega); have h1 := h 1 (by omega); have h2 := h 2 (by omega); have h3 := h 3 (by omega)
    rw [Nat.add_zero, Nat.add_zero] at h0
    unfold w4
    rw [h0, h1, h2, h3]
theorem reads_w4 {w : World} {A : Option Addr} {n : Nat} {b : List Int} {p o : Nat} (h : Reads w .u8 A n b) (hA : A = some ⟨p, o, none⟩) (i : Nat) (hi : i + 4 ≤ n) : Reads w .u8 (some ⟨p, o + i, none⟩) 4 (w4 b i) :=
  ⟨rfl, by decide, fun _ => ⟨p, o + i, rfl, fun j hj => by
    obtain ⟨p', o', e, hc⟩ := h.2.2 (by omega)
    rw [hA] at e
    injection e with e
    injection e with e1 e2
    subst e1; subst e2
    rw [Nat.add_assoc, hc (i + j) (by omega)]
    rcases (show j = 0 ∨ j = 1 ∨ j = 2 ∨ j = 3 by omega) with rfl | rfl | rfl | rfl <;> rfl⟩⟩
theorem wf_bounds {b : List Int} (h : ∀ x ∈ b, (Lit.int .u8 x).wf = true) (i : Nat) : ∀ x ∈ w4 b i, 0 ≤ x ∧ x ≤ 255 := by
  have hb : ∀ j, 0 ≤ b.getD j 0 ∧ b.getD j 0 ≤ 255 := fun j => by
    rw [List.getD_eq_getElem?_getD]
    cases e : b[j]? with
    | none => simp
    | some x => exact Go.bounds_u8 (h x (List.mem_of_getElem? e))
  intro x hx
  simp only [w4, List.mem_cons, List.not_mem_nil, or_false] at hx
  rcases hx with rfl | rfl | rfl | rfl <;> exact hb _
/-- the comparison of two windows -/
theorem w4_str {b : List Int} (h : ∀ x ∈ b, (Lit.int .u8 x).wf = true) (i k : Nat) (hne : ¬ eq4 b k i) : ((strOfNums (w4 b i)).toList == (strOfNums (w4 b k)).toList) = false :=
  str_ne (wf_bounds h i) (wf_bounds h k) (fun e => hne ((w4_iff b i k).1 e))

set_option maxRecDepth 20000 in
set_option maxHeartbeats 4000000 in
theorem matchBytes_walk (w : World) (a0 : Option Addr) (cap0 : Nat) (zs : List Int) (h : BytesIn w a0 cap0 zs) :
    Calls Try.prog 9 #[.slice a0 zs.length cap0] w fun e w' => e = .returned (.bool true) ∧ Below w.heap.size w w' := by
  have HI := Lib.hid h; clear h
  by_cases h2 : (200 : Int) < zs.length
  · go_enter Try.func9, Try.ntmps9
    go_wp2_with (go_at_call 10; refine (awake_any w).mono ?_; rintro e w1 ⟨rfl, hb⟩; have HB := Lib.hid hb; clear hb)
    go_ret
    exact ⟨rfl, HB.out⟩
  obtain ⟨n, hn⟩ : ∃ n, zs.length = n := ⟨_, rfl⟩
  have HR := HI.out.reads
  have HC := HI.out.cap
  rw [hn] at HR HC h2 ⊢
  have H2 := Lib.hid (show n ≤ 200 by omega)
  have hnI : (n : Int) ≤ 200 := by omega
  have hcI : (n : Int) ≤ cap0 := by omega
  have hd1 : decide ((200 : Int) < (n : Int)) = false := decide_eq_false h2
  have hd3 : decide (200 < n) = false := decide_eq_false (by omega)
  have HF := Lib.hid (fun w' (b : Below w.heap.size w w') => find_any a0 cap0 zs n w' hn (HR.same b) HI.out.wf (by omega) HC)
  have HN := Lib.hid hn; have HRZ := Lib.hid HR; have HW := Lib.hid HI.out.wf
  clear HR HC hn h2
  go_enter Try.func9, Try.ntmps9
  go_wp2_with (go_at_call 10; refine (awake_any w).mono ?_; rintro e w1 ⟨rfl, hb⟩; have HB := Lib.hid hb; clear hb)
  go_loopw [4, 5] (fun v4 _ wr => ∃ i : Nat, v4 = .int .i64 i ∧ Hid (i ≤ n) ∧ Hid (Below w.heap.size w wr) ∧ Hid (∀ a k, a < i → a + 4 ≤ n → k < a → ¬ eq4 zs k a)) (fun v4 _ _ => n + 1 - (intOf v4).toNat)
  case atStart => exact ⟨0, rfl, Nat.zero_le _, HB.out, fun a k h => absurd h (by omega)⟩
  case round =>
    obtain ⟨i, rfl, HIN, HBI, HP⟩ := hrel
    have hiI : (i : Int) ≤ 200 := by have := HIN.out; have := H2.out; omega
    obtain ⟨wo, rfl⟩ : ∃ wo : World, wo = wr := ⟨_, rfl⟩
    by_cases hi : (i : Int) + 4 ≤ n
    · obtain ⟨p, o, rfl, hc⟩ := HRZ.out.2.2 (by omega)
      clear hc
      have hci : (i : Int) + 4 ≤ (cap0 : Int) := by omega
      have hw1 : IntKind.i64.wrap ((i : Int) + 4) = (i : Int) + 4 := by rw [IntKind.wrap_i64]; omega
      have HII := Lib.hid hi
      go_wp2
      go_loopw [5] (fun v5 wi => ∃ k : Nat, v5 = .int .i64 k ∧ Hid (k ≤ i) ∧ Hid (Below w.heap.size w wi) ∧ Hid (∀ k', k' < k → ¬ eq4 zs k' i)) (fun v5 _ => i - (intOf v5).toNat)
      case atStart => exact ⟨0, rfl, Nat.zero_le _, HBI.out, fun k' h => absurd h (by omega)⟩
      case round =>
        obtain ⟨k, rfl, HK, HBK, HPK⟩ := hrel
        by_cases hk : (k : Int) < (i : Int)
        · have hck : (k : Int) + 4 ≤ (cap0 : Int) := by omega
          have hw2 : IntKind.i64.wrap ((k : Int) + 4) = (k : Int) + 4 := by rw [IntKind.wrap_i64]; omega
          have hki : (k : Int) + 4 ≤ n := by omega
          have s1 := fun m => conv_reads (c := cap0 - i) (reads_w4 (HRZ.out.fr (Fr.refl _ w) (fun _ _ _ h => h)) rfl i (by omega) |>.same HBK.out |>.fr ((Fr.refl (fun _ => False) wr).drewN m) (fun _ _ _ h => h))
          have s2 := fun m => conv_reads (c := cap0 - k) (reads_w4 (HRZ.out.fr (Fr.refl _ w) (fun _ _ _ h => h)) rfl k (by omega) |>.same HBK.out |>.fr ((Fr.refl (fun _ => False) wr).drewN m) (fun _ _ _ h => h))
          have HSS := Lib.hid (w4_str HW.out i k)
          have HEQ := Lib.hid ((w4_iff zs i k).2)
          generalize w4 zs i = X at *
          generalize w4 zs k = Y at *
          by_cases he : eq4 zs k i
          · have hxy := HEQ.out he
            subst hxy
            clear he
            go_wp2
            go_quiet (fail)
            go_wp2
            go_ret
            exact ⟨rfl, below_drewN HBK.out _⟩
          · have hne := HSS.out he
            have HE := Lib.hid he
            clear he
            go_wp2
            go_quiet (fail)
            go_wp2
            go_roundw
            case rel =>
              refine ⟨k + 1, by go_num, (by omega : k + 1 ≤ i), below_drewN HBK.out _, ?_⟩
              show ∀ k', k' < k + 1 → ¬ eq4 zs k' i
              intro k' hk'
              by_cases e : k' = k
              · rw [e]; exact HE.out
              · exact HPK.out k' (by omega)
            case measure => simp [intOf]; omega
        · have hki : k = i := by have := HK.out; omega
          have HKI := Lib.hid hki
          clear hki
          go_wp2
          go_roundw
          case rel =>
            refine ⟨i + 1, by go_num, (by omega : i + 1 ≤ n), HBK.out, ?_⟩
            show ∀ a k, a < i + 1 → a + 4 ≤ n → k < a → ¬ eq4 zs k a
            intro a k' h1 h2 h3
            by_cases e : a = i
            · rw [e]
              exact HPK.out k' (by rw [HKI.out]; omega)
            · exact HP.out a k' (by omega) h2 h3
          case measure => simp [intOf]; omega
    · have hT : find zs = zs.map (fun x => (x, 0, 0)) := find_never zs (fun a k h1 h2 => HP.out a k (by rw [HN.out] at h1; omega) (by rw [HN.out] at h1; exact h1) h2)
      have HTT := Lib.hid hT; clear hT
      have hlen : (find zs).length = n := by rw [HTT.out, List.length_map, HN.out]
      have HLN := Lib.hid hlen; clear hlen
      have hFB := HF.out wo HBI.out
      rw [HLN.out] at hFB
      have HFB := Lib.hid hFB
      clear hFB
      go_wp2_with (go_at_call 12; refine HFB.out.mono ?_; rintro e w5 ⟨v, rfl, h1, h2⟩; obtain ⟨A2, c2, rfl, hc, hT⟩ := own_readsT h1 HLN.out; have HB5 := Lib.hid (HBI.out.trans (h2.mono HBI.out.size)); have HT5 := Lib.hid hT; have hc2 : (n : Int) ≤ (c2 : Int) := (by omega); clear h1 h2 hc hT)
      have hnn : ((n : Int) != (n : Int)) = false := by simp
      go_wp2
      go_loopw [7] (fun v7 wi => ∃ j : Nat, v7 = .int .i64 j ∧ Hid (j ≤ n) ∧ Hid (Same w5 wi)) (fun v7 _ => n - (intOf v7).toNat)
      case atStart => exact ⟨0, rfl, Nat.zero_le _, Fr.refl _ _⟩
      case round =>
        obtain ⟨j, rfl, HJ, HS⟩ := hrel
        by_cases hj : (j : Int) < n
        · obtain ⟨b, o, rfl, hc⟩ := (HT5.out.same (below_fr HS.out)).2 (by omega)
          obtain ⟨d0, d1, d2⟩ := hc j (by omega)
          obtain ⟨p, q, rfl, hz⟩ := (HRZ.out.same (HB5.out.trans ((below_fr HS.out).mono HB5.out.size))).2.2 (by omega)
          have z0 := hz j (by omega)
          have htj : (find zs).getD j (0, 0, 0) = (zs.getD j 0, 0, 0) := by
            rw [HTT.out, List.getD_eq_getElem?_getD, List.getElem?_map, List.getD_eq_getElem?_getD]
            have : j < zs.length := by rw [HN.out]; omega
            rw [List.getElem?_eq_getElem this]; rfl
          rw [htj] at d0 d1 d2
          clear hc hz htj
          generalize zs.getD j 0 = x at *
          simp only at d0 d1 d2
          go_wp2
          go_quiet (fail)
          go_wp2
          go_roundw
          case rel => exact ⟨j + 1, by go_num, (by omega : j + 1 ≤ n), HS.out.drewN _⟩
          case measure => simp [intOf]; omega
        · go_wp2
          go_ret
          exact ⟨rfl, HB5.out.trans ((below_fr HS.out).mono HB5.out.size)⟩
end Go.Proofs.Ytclamfdmgflofaa
