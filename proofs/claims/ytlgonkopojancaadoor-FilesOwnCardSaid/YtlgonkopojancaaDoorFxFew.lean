/- The walk of Few. -/
import Derived.Test.YtlgonkopojancaaDoorFxRows
namespace Go.Proofs.YtlgonkopojancaaDoor
open Go.RowKit

/-- what Few says -/
def fewB (fs : List Fi) : Bool := decide (fs.length ≤ 60) && fs.all (fun f => decide (f.name.size ≤ 200) && decide (f.body.length ≤ 500))
def fewTo (fs : List Fi) (i : Nat) : Prop := ∀ j, j < i → (fs.getD j default).name.size ≤ 200 ∧ (fs.getD j default).body.length ≤ 500
theorem few_true {fs : List Fi} (h : fs.length ≤ 60) (g : fewTo fs fs.length) : fewB fs = true := by
  unfold fewB
  rw [Bool.and_eq_true, List.all_eq_true]
  refine ⟨decide_eq_true h, fun f hf => ?_⟩
  obtain ⟨j, hj, rfl⟩ := List.getElem_of_mem hf
  have := g j hj
  rw [List.getD_eq_getElem?_getD, List.getElem?_eq_getElem hj] at this
  simpa using this
theorem few_false {fs : List Fi} {j : Nat} (hj : j < fs.length) (h : ¬ ((fs.getD j default).name.size ≤ 200 ∧ (fs.getD j default).body.length ≤ 500)) : fewB fs = false := by
  unfold fewB
  rw [Bool.and_eq_false_iff]
  right
  rw [List.all_eq_false]
  refine ⟨fs[j], List.getElem_mem hj, ?_⟩
  rw [List.getD_eq_getElem?_getD, List.getElem?_eq_getElem hj] at h
  simpa using h
set_option maxRecDepth 20000 in
set_option maxHeartbeats 2000000 in
theorem few_any (fs : List Fi) (A : Option Addr) (n c : Nat) (w : World) (hf : FRd w A n fs) (hs : ∀ f ∈ fs, f.name.size ≤ 9223372036854775807) :
    Calls Tryd.prog 12 #[.slice A n c] w fun e w' => e = .returned (.bool (fewB fs)) ∧ Same w w' := by
  obtain ⟨hl, h63, hc⟩ := hf
  have HC := Lib.hid hc; have HS := Lib.hid hs; have HL := Lib.hid hl
  clear hc hs hl
  by_cases h60 : (n : Int) > 60
  · have HF : Hid (fewB fs = false) := (by unfold fewB; rw [HL.out, decide_eq_false (by omega)]; rfl : fewB fs = false)
    clear h63
    go_enter Tryd.func12, Tryd.ntmps12
    go_wp2_with fail
    go_ret
    exact ⟨by rw [HF.out]; rfl, Fr.refl _ _⟩
  · have n60 : (n : Int) ≤ 60 := by omega
    clear h60 h63
    go_enter Tryd.func12, Tryd.ntmps12
    go_wp2_with fail
    go_loopw [3] (fun v3 wr => ∃ i : Nat, v3 = .int .i64 i ∧ (i : Int) ≤ n ∧ Hid (fewTo fs i) ∧ Hid (Same w wr)) (fun v3 _ => n - (intOf v3).toNat)
    case atStart => exact ⟨0, rfl, by omega, fun j hj => absurd hj (Nat.not_lt_zero _), Fr.refl _ _⟩
    case round =>
      obtain ⟨i, rfl, hin, HT, HSM⟩ := hrel
      by_cases hi : (i : Int) < n
      · obtain ⟨b, o, rfl, hcs⟩ := HC.out (by omega)
        obtain ⟨A', n', c', h0, h1, h2, h3, h4⟩ := hcs i (by omega)
        obtain ⟨nm, hnm⟩ : ∃ nm, (fs.getD i default).name = nm := ⟨_, rfl⟩
        have hb' : (fs.getD i default).body.length = n' := h4.1
        have k0 := HSM.out.cell h0 (fun e => e)
        have k3 := HSM.out.cell h3 (fun e => e)
        rw [hnm] at k0
        have sz : (nm.size : Int) ≤ 9223372036854775807 := by
          have := HS.out (fs.getD i default) (by
            rw [List.getD_eq_getElem?_getD, List.getElem?_eq_getElem (by have := HL.out; omega)]
            exact List.getElem_mem _)
          rw [hnm] at this
          omega
        have HN := Lib.hid hnm; have HBL := Lib.hid hb'
        clear hcs h0 h1 h2 h3 h4 hnm hb'
        by_cases hs1 : (nm.size : Int) > 200
        · have HF : Hid (fewB fs = false) := (few_false (j := i) (by have := HL.out; omega) (by rw [HN.out]; omega) : fewB fs = false)
          go_wp2_with fail
          go_ret
          exact ⟨by rw [HF.out]; rfl, HSM.out⟩
        · by_cases hs2 : (n' : Int) > 500
          · have HF : Hid (fewB fs = false) := (few_false (j := i) (by have := HL.out; omega) (by rw [HBL.out]; omega) : fewB fs = false)
            go_wp2_with fail
            go_ret
            exact ⟨by rw [HF.out]; rfl, HSM.out⟩
          · have HT1 : Hid (fewTo fs (i + 1)) := (fun j hj => by
              by_cases hji : j < i
              · exact HT.out j hji
              · have : j = i := by omega
                subst this
                rw [HN.out, HBL.out]
                omega : fewTo fs (i + 1))
            go_wp2_with fail
            go_roundw
            case rel => exact ⟨i + 1, by go_num, by omega, HT1.out, HSM.out⟩
            case measure => simp [intOf]; omega
      · have hin2 : i = n := by omega
        have HF : Hid (fewB fs = true) := (few_true (by have := HL.out; omega) (by rw [HL.out, ← hin2]; exact HT.out) : fewB fs = true)
        go_wp2_with fail
        go_ret
        exact ⟨by rw [HF.out]; rfl, HSM.out⟩
end Go.Proofs.YtlgonkopojancaaDoor
