/- The contracts of Pad and Unpad at a list whose length has a name. -/
import Derived.Test.YtobepippjhmeaaaDoorBkHelp
namespace Go.Proofs.YtobepippjhmeaaaDoor
open Go.RowKit
open Bk

theorem pad_len {cl : List Int} {L N : Nat} (h : cl.length = L) (hN : size (L + 1) = N) (hl : L ≤ 10000) (A : Option Addr) (c : Nat) (w : World) (hr : Reads w .u8 A L cl) :
    Calls Tryd.prog 13 #[.slice A L c] w fun e w' => ∃ A' c', e = .returned (.tuple #[.slice A' N c', .int .i64 0]) ∧ N ≤ c' ∧ Reads w' .u8 A' N (padL cl) ∧ Below w.heap.size w w' := by
  subst h; subst hN
  exact pad_n A c cl w hr hl
theorem unpad_len {cl : List Int} {L N : Nat} (h : cl.length = L) (hN : size (L + 1) = N) (hl : L ≤ 10000) (A : Option Addr) (c : Nat) (w : World) (hr : Reads w .u8 A N (padL cl)) (hc : N ≤ c) :
    Calls Tryd.prog 15 #[.slice A N c] w fun e w' => ∃ A' c', e = .returned (.tuple #[.slice A' L c', .int .i64 0]) ∧ Reads w' .u8 A' L cl ∧ Below w.heap.size w w' := by
  subst h; subst hN
  exact unpad_n A c cl w hr hc hl
/-- Unpad of any bytes of a named length -/
theorem unpad_any_len {cl ul : List Int} {L t U : Nat} {er : Int} (h : cl.length = L) (hl : L ≤ 100000) (ht : IsTrim cl t) (hu : ux cl t = ul) (hU : ul.length = U) (he : ue cl t = er) (A : Option Addr) (c : Nat) (w : World) (hr : Reads w .u8 A L cl) (hc : L ≤ c) :
    Calls Tryd.prog 15 #[.slice A L c] w fun e w' => ∃ A' c', e = .returned (.tuple #[.slice A' U c', .int .i64 er]) ∧ Reads w' .u8 A' U ul ∧ Below w.heap.size w w' := by
  subst h; subst hu; subst hU; subst he
  exact unpad_any A c cl t w hr hc (by omega) ht
theorem runpad_any_len {cl ul : List Int} {L t U : Nat} {er : Int} (h : cl.length = L) (hl : L ≤ 100000) (ht : IsTrim cl t) (hx : ∀ x ∈ cl, 0 ≤ x ∧ x ≤ 255) (hu : ux cl t = ul) (hU : ul.length = U) (he : ue cl t = er) (A : Option Addr) (c : Nat) (w : World) (hr : Reads w .u8 A L cl) (hc : L ≤ c) :
    Calls Tryd.prog 16 #[.slice A L c] w fun e w' => ∃ A' c', e = .returned (.tuple #[.slice A' U c', .int .i64 er]) ∧ Reads w' .u8 A' U ul ∧ Below w.heap.size w w' := by
  subst h; subst hu; subst hU; subst he
  exact runpad_any A c cl t w hr hc (by omega) ht hx
theorem rpad_len {cl : List Int} {L N : Nat} (h : cl.length = L) (hN : size (L + 1) = N) (hl : L ≤ 10000) (A : Option Addr) (c : Nat) (w : World) (hr : Reads w .u8 A L cl) :
    Calls Tryd.prog 14 #[.slice A L c] w fun e w' => ∃ A' c', e = .returned (.tuple #[.slice A' N c', .int .i64 0]) ∧ Reads w' .u8 A' N (padL cl) ∧ Below w.heap.size w w' := by
  subst h; subst hN
  exact rpad_n A c cl w hr hl
/-- append(v, make([]byte, m)...), in a walk, with where the row lies -/
theorem wpList_append_zeros_at {P : Program} {ops : Array Oper} {rest : List Oper} {o : Oper} {a : Act} {w : World} {Q : Exit → Act → World → Prop}
    (hg : o.guard = none) (s y : Operand) (t ti e : TypeId) (ho : o.op = Op.call { callee := Callee.builtin Builtin.append, args := #[s, y], argTypes := #[t, ti] })
    (i : TypeInfo) (ht : P.underlying t = some (.slice e)) {k : IntKind} (hti : P.underlying ti = some (.int k)) (hi : P.info? e = some i) (hz : i.zero = some (.int .u8 0)) (hsize : i.size = 1) (hby : i.bytes = 1)
    (v : Value) (n m : Nat) (xs : List Value) (hs : a.eval s = v) (hy : a.eval y = .int .i64 (m : Int)) (hown : w.ownsRow 0 e 1 v n xs) (hb : n + m ≤ 140737488355328) (B : Nat) (hB : B ≤ w.heap.size) (hv : From B v)
    (h : ∀ v' w', w'.ownsRow 0 e 1 v' (n + m) (xs ++ List.replicate m (.int .u8 0)) → Below B w w' → From B v' → wpList P ops Q rest (a.put o.dst v') w') :
    wpList P ops Q (o :: rest) a w := by
  refine wpList_plain hg fun K hK => ?_
  obtain ⟨v', w', hr, h2, h3, h5⟩ := run_append_zeros (P := P) w 0 t ti o.type e i (.int .u8 0) 1 1 ht hti hi hz hsize hby rfl (by decide) (by decide) v n xs hown .i64 m (by intro u hu; rw [zeroCells_u8] at hu; obtain rfl := List.eq_of_mem_replicate hu; rfl) (by omega) (Nat.zero_le _)
  rw [zeroCells_u8] at h2
  unfold Oper.wp execOp
  simp only [ho, resolve, invoke, builtin, Sem.run_bind, Sem.run_pure, Result.andThen_ok, List.map_toArray, List.map_cons, List.map_nil, hs, hy, hr]
  refine hK _ _ (h v' w' h2 (grown_from (Fr.of_grown h3) hB hv) (fun j hj => ?_))
  rcases h5 with h5 | h5
  · exact hv j (by rw [← h5]; exact hj)
  · rw [h5] at hj; simp at hj; omega
/-- the same for one more element -/
theorem from_one {w0 : World} {v v' : Value} {B : Nat} (h : v'.ownBlock = v.ownBlock ∨ ∃ j, v'.ownBlock = some j ∧ w0.heap.size ≤ j) (hB : B ≤ w0.heap.size) (hv : From B v) : From B v' := fun j hj => by
  rcases h with h | ⟨i, h, hi⟩
  · exact hv j (by rw [← h]; exact hj)
  · rw [h] at hj; simp at hj; omega
end Go.Proofs.YtobepippjhmeaaaDoor
