/- Strings of bytes that are read. -/
import Derived.Test.YtclamfdmgflofaaMxFind
namespace Go.Proofs.Ytclamfdmgflofaa
open Go.RowKit
open Mx

theorem strOfNums_inj {xs ys : List Int} (hx : ∀ x ∈ xs, 0 ≤ x ∧ x ≤ 255) (hy : ∀ x ∈ ys, 0 ≤ x ∧ x ≤ 255) (h : strOfNums xs = strOfNums ys) : xs = ys := by
  have h2 : (strOfNums xs).data.toList = (strOfNums ys).data.toList := by rw [h]
  rw [strOfNums_data, strOfNums_data] at h2
  induction xs generalizing ys with
  | nil =>
    cases ys with
    | nil => rfl
    | cons y ys => simp at h2
  | cons x xs ih =>
    cases ys with
    | nil => simp at h2
    | cons y ys =>
      simp only [List.map_cons, List.cons.injEq] at h2
      have hx0 := hx x (by simp)
      have hy0 := hy y (by simp)
      have e : x = y := by
        have := congrArg UInt8.toNat h2.1
        simp at this
        omega
      rw [e, ih (fun z hz => hx z (by simp [hz])) (ys := ys) (fun z hz => hy z (by simp [hz])) (by
        have h3 := h2.2
        unfold strOfNums
        rw [h3]) h2.2]

theorem str_ne {xs ys : List Int} (hx : ∀ x ∈ xs, 0 ≤ x ∧ x ≤ 255) (hy : ∀ x ∈ ys, 0 ≤ x ∧ x ≤ 255) (h : ¬ xs = ys) : ((strOfNums xs).toList == (strOfNums ys).toList) = false := by
  rw [beq_eq_false_iff_ne]
  intro e
  rw [ByteArray.toList_eq, ByteArray.toList_eq] at e
  refine h (strOfNums_inj hx hy ?_)
  have : ∀ a b : ByteArray, a.data.toList = b.data.toList → a = b := by
    rintro ⟨⟨a⟩⟩ ⟨⟨b⟩⟩ h
    simp at h
    rw [h]
  exact this _ _ e

/-- string(b), b a slice of bytes that is read -/
theorem conv_reads {w : World} {A : Option Addr} {n c : Nat} {xs : List Int} (h : Reads w .u8 A n xs) : (convert 23 9 (.slice A n c)).run Try.prog w = .ok (.string (strOfNums xs)) w := by
  have hn : xs.length = n := h.1
  rcases A with _ | ad
  · obtain ⟨rfl, rfl⟩ := h.none
    exact run_convert_bytes_nil w 23 5 Try.underlying23 Try.underlying5 0 c 9 Try.underlying9
  · have hl : (loadCells ad n).run Try.prog w = .ok (xs.map (Value.int .u8)).toArray w := by
      have := run_loadCells_list (P := Try.prog) w ad (xs.map (Value.int .u8)) (fun j v hj => by
        have hjl : j < xs.length := by
          have := (List.getElem?_eq_some_iff.1 hj).1
          simpa using this
        exact h.cells rfl (by omega) j v hj)
      simpa [hn] using this
    rw [run_convert_bytes_string w 23 9 5 _ n c Try.underlying23 Try.underlying5 Try.underlying9, run_bytesToString w ad n c xs hl, foldl_push_bytes]
    simp [strOfNums, ByteArray.empty, ByteArray.emptyWithCapacity]
    rfl

/-- equal strings -/
theorem str_eq (xs : List Int) : ((strOfNums xs).toList == (strOfNums xs).toList) = true := by simp
end Go.Proofs.Ytclamfdmgflofaa
