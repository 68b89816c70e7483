/- Files as they lie in memory. -/
import Derived.Test.YtlgonkopojancaaDoorFxLib
import Derived.Test.YtlgonkopojancaaDoorProg
import Derived.Laws.OwnMore
namespace Go.Proofs.YtlgonkopojancaaDoor
open Go.RowKit

structure Fi where
  name : ByteArray
  mode : Int
  time : Int
  body : List Int
deriving DecidableEq
instance : Inhabited Fi := ⟨⟨⟨#[]⟩, 0, 0, []⟩⟩

/-- bytes -/
def Bts (xs : List Int) : Prop := ∀ x ∈ xs, 0 ≤ x ∧ x ≤ 255
structure FOk (f : Fi) : Prop where
  name : f.name.size ≤ 9223372036854775807
  mode : 0 ≤ f.mode ∧ f.mode < 4294967296
  time : -9223372036854775808 ≤ f.time ∧ f.time ≤ 9223372036854775807
  body : Bts f.body
/-- the value of a file in a slot -/
def fval (f : Fi) (A : Option Addr) (n c : Nat) : Value := .agg #[.string f.name, .int .u32 f.mode, .int .i64 f.time, .slice A n c]
def fcells (f : Fi) (A : Option Addr) (n c : Nat) : List Value := [.string f.name, .int .u32 f.mode, .int .i64 f.time, .slice A n c]
/-- a file's four cells; what is in it is read -/
def FAt (w : World) (b o : Nat) (f : Fi) : Prop :=
  ∃ A n c, w.cell? ⟨b, o, none⟩ = some (.string f.name) ∧ w.cell? ⟨b, o + 1, none⟩ = some (.int .u32 f.mode) ∧ w.cell? ⟨b, o + 2, none⟩ = some (.int .i64 f.time) ∧ w.cell? ⟨b, o + 3, none⟩ = some (.slice A n c) ∧ Reads w .u8 A n f.body
/-- a slice of files that is read -/
def FRd (w : World) (A : Option Addr) (n : Nat) (fs : List Fi) : Prop :=
  fs.length = n ∧ n ≤ 9223372036854775807 ∧ (0 < n → ∃ b o, A = some ⟨b, o, none⟩ ∧ ∀ j, j < n → FAt w b (o + j * 4) (fs.getD j default))
theorem Reads.all {w w' : World} {k : IntKind} {A : Option Addr} {n : Nat} {xs : List Int} {S : Nat → Prop} (h : Reads w k A n xs) (f : Fr S w w') (hs : ∀ b, ¬ S b) : Reads w' k A n xs := h.fr f (fun _ b _ => hs b)
theorem FAt.same {w w' : World} {b o : Nat} {f : Fi} (h : FAt w b o f) (g : Below w.heap.size w w') : FAt w' b o f := by
  obtain ⟨A, n, c, h0, h1, h2, h3, h4⟩ := h
  have hb := World.block_lt_of_cell? w _ h0
  exact ⟨A, n, c, (g.cell (p := ⟨b, o, none⟩) hb).trans h0, (g.cell (p := ⟨b, o + 1, none⟩) hb).trans h1, (g.cell (p := ⟨b, o + 2, none⟩) hb).trans h2, (g.cell (p := ⟨b, o + 3, none⟩) hb).trans h3, h4.same g⟩
theorem FRd.same {w w' : World} {A : Option Addr} {n : Nat} {fs : List Fi} (h : FRd w A n fs) (g : Below w.heap.size w w') : FRd w' A n fs :=
  ⟨h.1, h.2.1, fun hn => by
    obtain ⟨b, o, e, hc⟩ := h.2.2 hn
    exact ⟨b, o, e, fun j hj => (hc j hj).same g⟩⟩
theorem FRd.nil (w : World) (A : Option Addr) : FRd w A 0 [] := ⟨rfl, by decide, fun h => absurd h (by decide)⟩
theorem FRd.at {w : World} {A : Option Addr} {n : Nat} {fs : List Fi} (h : FRd w A n fs) {j : Nat} (hj : j < n) : ∃ b o, A = some ⟨b, o, none⟩ ∧ FAt w b (o + j * 4) (fs.getD j default) := by
  obtain ⟨b, o, e, hc⟩ := h.2.2 (by omega)
  exact ⟨b, o, e, hc j hj⟩
theorem info5 : (Tryd.prog.info? 5).map (fun i => (i.zero, i.size, i.bytes)) = some (some (.int .u8 0), 1, 1) := by kernel_rfl

/-- append of whatever is read onto a row of the call's own -/
theorem wpList_append_reads {P : Program} {ops : Array Oper} {rest : List Oper} {o : Oper} {a : Act} {w : World} {Q : Exit → Act → World → Prop}
    (hg : o.guard = none) (s y : Operand) (t e : TypeId) (ho : o.op = Op.call { callee := Callee.builtin Builtin.append, args := #[s, y], argTypes := #[t, t] })
    (ht : P.underlying t = some (.slice e)) (hinfo : (P.info? e).map (fun i => (i.zero, i.size, i.bytes)) = some (some (.int .u8 0), 1, 1))
    (v : Value) (n m c : Nat) (A : Option Addr) (xs : List Value) (zs : List Int) (hs : a.eval s = v) (hy : a.eval y = .slice A m c) (hown : w.ownsRow 0 e 1 v n xs) (hr : Reads w .u8 A m zs) (hb : n + m ≤ 140737488355328)
    (h : ∀ v' w', w'.ownsRow 0 e 1 v' (n + m) (xs ++ zs.map (Value.int .u8)) → Fr (fun k => some k = v.ownBlock) w w' → (v'.ownBlock = v.ownBlock ∨ v'.ownBlock = some w.heap.size) → wpList P ops Q rest (a.put o.dst v') w') :
    wpList P ops Q (o :: rest) a w := by
  obtain ⟨i, hi, hz0, hz1, hz2⟩ := info_parts hinfo
  refine wpList_plain hg fun K hK => ?_
  cases A with
  | none =>
    obtain ⟨rfl, rfl⟩ := hr.none
    have hrun : (Builtin.append_ #[t, t] o.type #[v, .slice none 0 c]).run P w = .ok v w := by
      rcases hown.2 with ⟨rfl, rfl⟩ | ⟨g, cap, cur, rfl, _, _, hnc, _⟩
      · simp [Builtin.append_, run_underlying ht, sizeOf, typeInfo, hi, Builtin.lenOf, Builtin.firstCells]
      · simp [Builtin.append_, run_underlying ht, sizeOf, typeInfo, hi, Builtin.lenOf, Builtin.firstCells, hnc, storeCells]
    unfold Oper.wp execOp
    simp only [ho, resolve, invoke, builtin, Sem.run_bind, Sem.run_pure, Result.andThen_ok, List.map_toArray, List.map_cons, List.map_nil, hs, hy, hrun]
    exact hK _ _ (h v w (by simpa using hown) (Fr.refl _ _) (.inl rfl))
  | some ad =>
    obtain ⟨v', w', hrun, h2, h3, _, h5⟩ := run_append_own_at (P := P) w 0 t o.type e i (.int .u8 0) 1 1 ht hi hz0 hz1 hz2 rfl (by decide) v n xs hown ad m c (zs.map (Value.int .u8)) (by rw [List.length_map, hr.1]; omega)
      (fun j u hj => hr.cells rfl (by have := (List.getElem?_eq_some_iff.1 hj).1; have := hr.1; simp at *; omega) j u hj) (by intro u hu; obtain ⟨x, _, rfl⟩ := List.mem_map.1 hu; rfl) (by unfold maxLen; omega) (by omega) (Nat.zero_le _)
    unfold Oper.wp execOp
    simp only [ho, resolve, invoke, builtin, Sem.run_bind, Sem.run_pure, Result.andThen_ok, List.map_toArray, List.map_cons, List.map_nil, hs, hy, hrun]
    exact hK _ _ (h v' w' h2 (Fr.of_grown h3) h5)

/-- the bytes as a string -/
def strOf (xs : List Int) : ByteArray := ⟨(xs.map (fun x => x.toNat.toUInt8)).toArray⟩
theorem strOf_inj {xs ys : List Int} (hx : Bts xs) (hy : Bts ys) (h : (strOf xs).data.toList = (strOf ys).data.toList) : xs = ys := by
  unfold strOf at h
  simp only at h
  induction xs generalizing ys with
  | nil =>
    cases ys with
    | nil => rfl
    | cons y ys => simp at h
  | cons x xs ih =>
    cases ys with
    | nil => simp at h
    | cons y ys =>
      simp only [List.map_cons, List.cons.injEq] at h
      have hx0 := hx x (by simp)
      have hy0 := hy y (by simp)
      have e : x = y := by
        have := congrArg UInt8.toNat h.1
        simp at this
        omega
      rw [e, ih (fun z hz => hx z (by simp [hz])) (ys := ys) (fun z hz => hy z (by simp [hz])) h.2]
theorem bytes_ext : ∀ a b : ByteArray, a.data.toList = b.data.toList → a = b := by
  rintro ⟨⟨a⟩⟩ ⟨⟨b⟩⟩ h
  simp at h
  rw [h]
theorem str_beq {xs ys : List Int} (hx : Bts xs) (hy : Bts ys) : ((strOf xs).toList == (strOf ys).toList) = decide (xs = ys) := by
  by_cases h : xs = ys
  · subst h; simp
  · rw [decide_eq_false h, beq_eq_false_iff_ne, ByteArray.toList_eq, ByteArray.toList_eq]
    exact fun e => h (strOf_inj hx hy e)
theorem arr_beq (x y : ByteArray) : (x.toList == y.toList) = decide (x = y) := by
  by_cases h : x = y
  · subst h; simp
  · rw [decide_eq_false h, beq_eq_false_iff_ne, ByteArray.toList_eq, ByteArray.toList_eq]
    exact fun e => h (bytes_ext _ _ e)
/-- string(b), b a slice of bytes that is read -/
theorem conv_reads {w : World} {A : Option Addr} {n c : Nat} {xs : List Int} (h : Reads w .u8 A n xs) : (convert 25 9 (.slice A n c)).run Tryd.prog w = .ok (.string (strOf xs)) w := by
  have hn : xs.length = n := h.1
  rcases A with _ | ad
  · obtain ⟨rfl, rfl⟩ := h.none
    exact run_convert_bytes_nil w 25 5 Tryd.underlying25 Tryd.underlying5 0 c 9 Tryd.underlying9
  · have hl : (loadCells ad n).run Tryd.prog w = .ok (xs.map (Value.int .u8)).toArray w := by
      have := run_loadCells_list (P := Tryd.prog) w ad (xs.map (Value.int .u8)) (fun j v hj => by
        have hjl : j < xs.length := by
          have := (List.getElem?_eq_some_iff.1 hj).1
          simpa using this
        exact h.cells rfl (by omega) j v hj)
      simpa [hn] using this
    rw [run_convert_bytes_string w 25 9 5 _ n c Tryd.underlying25 Tryd.underlying5 Tryd.underlying9, run_bytesToString w ad n c xs hl, foldl_push_bytes]
    simp [strOf, ByteArray.empty, ByteArray.emptyWithCapacity]
    rfl
end Go.Proofs.YtlgonkopojancaaDoor
