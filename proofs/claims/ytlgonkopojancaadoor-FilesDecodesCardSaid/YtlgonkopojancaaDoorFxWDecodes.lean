/- The walks of the reference's Decode and of FilesDecodes. -/
import Derived.Test.YtlgonkopojancaaDoorFxGueW
import Derived.Test.YtlgonkopojancaaDoorFxTold2
namespace Go.Proofs.YtlgonkopojancaaDoor
open Go.RowKit

theorem guessB_ok {xs : List Int} (hb : Bts xs) : ∀ (fs : List Fi) (zs : List Nat) (t : Nat), (∀ f ∈ fs, FB xs f) → ∀ f ∈ guessB xs fs zs t, FB xs f ∧ Bts f.body ∧ f.body.length ≤ xs.length
  | [], _, _, _, f, hf => by rw [guessB_nil] at hf; cases hf
  | _ :: _, [], _, _, f, hf => by cases hf
  | g :: fs, z :: zs, t, h, f, hf => by
    rw [guessB] at hf
    rcases List.mem_cons.1 hf with rfl | hf
    · refine ⟨h g (by simp), fun x hx => hb x (List.mem_of_mem_drop (List.mem_of_mem_take hx)), ?_⟩
      show ((xs.drop t).take z).length ≤ _
      rw [List.length_take, List.length_drop]; omega
    · exact guessB_ok hb fs zs _ (fun f hf => h f (by simp [hf])) f hf
theorem guessH_len {xs : List Int} : ∀ (k t : Nat), (guessH xs k t).1.length ≤ k
  | 0, _ => Nat.le_refl _
  | k + 1, t => by
    rw [guessH]
    split
    · have := guessH_len (xs := xs) k (gStep xs t).2.2
      simp only [List.length_cons]
      omega
    · exact Nat.zero_le _
theorem guessB_len {xs : List Int} : ∀ (fs : List Fi) (zs : List Nat) (t : Nat), (guessB xs fs zs t).length ≤ fs.length
  | [], _, _ => by rw [guessB_nil]; exact Nat.le_refl _
  | _ :: _, [], _ => Nat.zero_le _
  | g :: fs, z :: zs, t => by
    rw [guessB]
    have := guessB_len (xs := xs) fs zs (t + ((xs.drop t).take z).length)
    simp only [List.length_cons]
    omega
theorem guessP_ok {xs : List Int} (hb : Bts xs) (hn : xs.length ≤ 1000000) : (∀ f ∈ guessP xs, FOk f ∧ f.name.size ≤ 1000000 ∧ f.body.length ≤ 1000000) ∧ (guessP xs).length ≤ 201 := by
  have h0 := getP_le (xs := xs) (t := 0) (Nat.zero_le _)
  have h1 := (guessH_ok (xs := xs) (min (getP xs 0).1 201) (getP xs 0).2 h0.2.1).1
  refine ⟨fun f hf => ?_, ?_⟩
  · obtain ⟨⟨a, b, c⟩, d, e⟩ := guessB_ok hb _ _ _ h1 f hf
    exact ⟨⟨by omega, b, c, d⟩, by omega, by omega⟩
  · refine Nat.le_trans (guessB_len _ _ _) (Nat.le_trans (guessH_len _ _) (Nat.min_le_right _ _))
/-- what the reference's Decode answers -/
def RDecPost (w0 : World) (m : Int) (xs : List Int) (w : World) (e : Ending) (w' : World) : Prop :=
  (match decP xs with
    | some gs => ∃ A' c', e = .returned (.tuple #[.slice A' gs.length c', .int .i64 0]) ∧ FRd w' A' gs.length gs
    | none => e = .returned (.tuple #[.slice none 0 0, .int .i64 162])) ∧ St w0 m w' ∧ Below w.heap.size w w'
theorem rdec_none {w0 : World} {m : Int} {xs : List Int} {w w' : World} (h : decP xs = none) (st : St w0 m w') (b : Below w.heap.size w w') : RDecPost w0 m xs w (.returned (.tuple #[.slice none 0 0, .int .i64 162])) w' := by
  unfold RDecPost
  rw [h]
  exact ⟨rfl, st, b⟩
set_option maxRecDepth 20000 in
set_option maxHeartbeats 4000000 in
theorem rdec_any (w0 : World) (m : Int) (A : Option Addr) (n c : Nat) (xs : List Int) (w : World) (st : St w0 m w) (hr : Rd w A n c xs) (hb : Bts xs) (hn : n ≤ 1000000) :
    Calls Tryd.prog 28 #[.slice A n c] w (RDecPost w0 m xs w) := by
  have hl : xs.length = n := hr.1.1
  obtain ⟨g1, g2⟩ := guessP_ok hb (by omega)
  have HR := Lib.hid hr; have HB := Lib.hid hb; have S0 := Lib.hid st
  have HG := Lib.hid (guess_any A n c xs w hr hb hn)
  obtain ⟨hs, hhs⟩ : ∃ hs, guessP xs = hs := ⟨_, rfl⟩
  rw [hhs] at g1 g2
  have G1 := Lib.hid g1
  have HHS := Lib.hid hhs
  obtain ⟨K, hK⟩ : ∃ K, hs.length = K := ⟨_, rfl⟩
  have HK := Lib.hid hK
  have k201 : (K : Int) ≤ 201 := by omega
  have HL := Lib.hid hl
  obtain ⟨ck, hck⟩ : ∃ ck, checkI hs = ck := ⟨_, rfl⟩
  have HCK := Lib.hid hck
  clear hr hb st g1 g2 hhs hK hl hck
  go_enter Tryd.func28, Tryd.ntmps28
  go_wp2_with fail
  refine HG.out.mono ?_
  rintro e w1 ⟨A1, c1, rfl, hf, b1⟩
  rw [HHS.out, HK.out] at hf ⊢
  have F1 := Lib.hid hf; have S1 := Lib.hid (S0.out.step b1); have R1 := Lib.hid (HR.out.below b1); have B1 := Lib.hid b1
  clear hf b1
  go_wp2_with fail
  by_cases h0 : ck = 0
  · subst h0
    refine (renc_told S1.out F1.out (by omega) (fun f h => (G1.out f h).2.2) (fun f h => (G1.out f h).2.1) (fun f h => (G1.out f h).1) HCK.out).mono ?_
    rintro e w2 ⟨gs, A2, c2, rfl, hst, hrd, st, b2⟩
    have z1 := conv_reads (c := c2) hrd.1
    have z2 := conv_reads (c := c) (R1.out.below b2).1
    have S2 := Lib.hid st; have B2 := Lib.hid (B1.out.trans (b2.mono B1.out.size)); have F2 := Lib.hid (F1.out.below b2)
    have HST := Lib.hid hst
    have hbts : Bts (encB gs) := encB_bts (fun f hf => by
      have hf' := (stable_names hst f).1 hf
      obtain ⟨a, b, c⟩ := G1.out f hf'
      exact ⟨a, by omega, by omega, (check_parts HCK.out).2.2.2.1 f hf'⟩)
    have HBT := Lib.hid hbts
    clear hst hrd st b2 hbts
    by_cases heq : encB gs = xs
    · rw [heq] at z1 ⊢
      have HEQ := Lib.hid heq
      clear heq
      go_wp2_with fail
      go_ret2
      have hd : decP xs = some hs := by
        rcases hd : decP xs with _ | gs2
        · exact absurd HEQ.out (dec_no hd HCK.out HST.out (fun f h => (G1.out f h).1) (fun f h => (G1.out f h).2.2) (fun f h => (G1.out f h).2.1))
        · obtain ⟨h1, h2, _, _, h5⟩ := decP_inv HB.out (by have := HL.out; omega) hd
          have h6 : guessP (encB gs2) = gs2 := guess_enc (fun f hf => (h5 f hf).enc (by have := HL.out; omega)) h2
          rw [← h1, HHS.out] at h6
          rw [h6]
      unfold RDecPost
      rw [hd]
      exact ⟨⟨A1, c1, by rw [HK.out]; rfl, by rw [HK.out]; exact F2.out⟩, S2.out, B2.out⟩
    · have hne : ¬ (strOf (encB gs)).toList = (strOf xs).toList := fun e => heq (strOf_inj HBT.out HB.out (by rw [← ByteArray.toList_eq, ← ByteArray.toList_eq, e]))
      have hne2 : ((strOf (encB gs)).toList == (strOf xs).toList) = false := beq_eq_false_iff_ne.2 hne
      have HNE := Lib.hid heq
      clear heq hne
      go_wp2_with fail
      go_ret2
      refine rdec_none ?_ S2.out B2.out
      rcases hd : decP xs with _ | gs2
      · rfl
      · exfalso
        obtain ⟨h1, h2, h3, _, h5⟩ := decP_inv HB.out (by have := HL.out; omega) hd
        have h6 : guessP (encB gs2) = gs2 := guess_enc (fun f hf => (h5 f hf).enc (by have := HL.out; omega)) h2
        rw [← h1, HHS.out] at h6
        have h7 : gs = hs := stable_unique HST.out (stable_refl ((adj_srt hs).1 (by rw [h6]; exact h3)))
        exact HNE.out (by rw [h7, h6, ← h1])
  · have hne : (ck != 0) = true := by simpa using h0
    refine (renc_err S1.out F1.out (by omega) (fun f h => (G1.out f h).2.2) (fun f h => (G1.out f h).2.1) (fun f h => (G1.out f h).1) HCK.out h0).mono ?_
    rintro e w2 ⟨rfl, st, b2⟩
    have S2 := Lib.hid st; have B2 := Lib.hid (B1.out.trans (b2.mono B1.out.size))
    clear st b2
    go_wp2_with fail
    go_ret2
    refine rdec_none ?_ S2.out B2.out
    rcases hd : decP xs with _ | gs2
    · rfl
    · exfalso
      obtain ⟨h1, h2, h3, h4, h5⟩ := decP_inv HB.out (by have := HL.out; omega) hd
      have h6 : guessP (encB gs2) = gs2 := guess_enc (fun f hf => (h5 f hf).enc (by have := HL.out; omega)) h2
      rw [← h1, HHS.out] at h6
      rw [← h6, HCK.out] at h4
      exact h0 h4
theorem frd_nil (w : World) : FRd w none 0 [] := ⟨rfl, by decide, fun h => absurd h (by decide)⟩
set_option maxRecDepth 20000 in
set_option maxHeartbeats 4000000 in
theorem filesDecodes_walk (w : World) (m : Int) (hm : w.cell? ⟨0, 0, none⟩ = some (.int .i64 m)) (B : Option Addr) (d : Nat) (zs : List Int) (hB : Reads w .u8 B zs.length zs ∧ zs.length ≤ d ∧ d ≤ 9223372036854775807) (hz : Bts zs) :
    Calls Tryd.prog 5 #[.slice B zs.length d] w fun e w' => e = .returned (.bool true) ∧ Below w.heap.size w w' := by
  have HZ := Lib.hid hz
  have R0 : Hid (Rd w B zs.length d zs) := hB
  have S0 := Lib.hid (St.refl hm)
  clear hm hB hz
  obtain ⟨M, hM⟩ : ∃ M, zs.length = M := ⟨_, rfl⟩
  rw [hM] at R0 ⊢
  have HM := Lib.hid hM
  clear hM
  by_cases hl : (M : Int) > 2000
  · go_enter Tryd.func5, Tryd.ntmps5
    go_wp2_with fail
    refine (awake_told S0.out).mono ?_
    rintro e w1 ⟨rfl, st, b⟩
    have S1 := Lib.hid st
    clear st b
    go_wp2_with fail
    go_ret
    exact ⟨rfl, S1.out.bel⟩
  · have hl2 : (M : Int) ≤ 2000 := by omega
    go_enter Tryd.func5, Tryd.ntmps5
    go_wp2_with fail
    refine (awake_told S0.out).mono ?_
    rintro e w1 ⟨rfl, st, b⟩
    have S1 := Lib.hid st; have R1 := Lib.hid (R0.out.below b)
    clear st b
    go_wp2_with fail
    rcases hd : decP zs with _ | gs
    · have HD := Lib.hid hd; clear hd
      refine (dec_err S1.out R1.out HZ.out (by omega) HD.out).mono ?_
      rintro e w2 ⟨rfl, st, b⟩
      have S2 := Lib.hid st; have R2 := Lib.hid (R1.out.below b)
      clear st b
      go_wp2_with fail
      refine (rdec_any w m B M d zs w2 S2.out R2.out HZ.out (by omega)).mono ?_
      rintro e w3 hp
      unfold RDecPost at hp
      rw [HD.out] at hp
      obtain ⟨rfl, st, b⟩ := hp
      have S3 := Lib.hid st
      clear st b
      go_wp2_with fail
      refine (same_told (B := true) S3.out (frd_nil w3) (frd_nil w3) (fun f hf => by cases hf) (fun f hf => by cases hf) (decide_eq_true rfl)).mono ?_
      rintro e w4 ⟨rfl, st, b⟩
      have S4 := Lib.hid st
      clear st b
      go_wp2_with fail
      go_ret
      exact ⟨rfl, S4.out.bel⟩
    · have HD := Lib.hid hd; clear hd
      obtain ⟨_, hz2, _, _, hz5⟩ := decP_inv HZ.out (by have := HM.out; omega) HD.out
      have HX : Hid (gs.length ≤ 200) := hz2
      have HY : Hid (∀ f ∈ gs, Bts f.body) := fun f h => (hz5 f h).ok.body
      clear hz2 hz5
      refine (dec_told S1.out R1.out HZ.out (by omega) HD.out HX.out).mono ?_
      rintro e w2 ⟨A2, c2, rfl, hf, st, b⟩
      have S2 := Lib.hid st; have R2 := Lib.hid (R1.out.below b); have G2 := Lib.hid hf
      clear st b hf
      go_wp2_with fail
      refine (rdec_any w m B M d zs w2 S2.out R2.out HZ.out (by omega)).mono ?_
      rintro e w3 hp
      unfold RDecPost at hp
      rw [HD.out] at hp
      obtain ⟨⟨A3, c3, rfl, hf⟩, st, b⟩ := hp
      have S3 := Lib.hid st; have G3 := Lib.hid (G2.out.below b); have K3 := Lib.hid hf
      clear st b hf
      go_wp2_with fail
      refine (same_told (B := true) S3.out G3.out K3.out HY.out HY.out (decide_eq_true rfl)).mono ?_
      rintro e w4 ⟨rfl, st, b⟩
      have S4 := Lib.hid st
      clear st b
      go_wp2_with fail
      go_ret
      exact ⟨rfl, S4.out.bel⟩
end Go.Proofs.YtlgonkopojancaaDoor
