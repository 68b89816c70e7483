/- How the arguments of a law lie in memory: bytes; files. -/
import Derived.Test.YtlgonkopojancaaDoorFxLaid
import Derived.Test.YtlgonkopojancaaDoorFxWNames
import Derived.ShutString
import Derived.ChangeOld
import Derived.Deep.Strs
import Derived.Deep.Slices
import Derived.Deep.Fields
import Derived.ChangeSame
import Derived.ChangeMaps5
namespace Go.Proofs.YtlgonkopojancaaDoor
open Go.ChangeShapes Go.WideShapes Go.ChangeAt Go.RowKit Go.Deep

theorem laidOut : laidOutB Tryd.prog = true := by kernel_rfl
theorem own : ownKnob Tryd.prog.godebug = none := by kernel_rfl
theorem maxlen_int (w : World) (h : w.ShapedOpen Tryd.prog) : ∃ m, w.cell? ⟨0, 0, none⟩ = some (.int .i64 m) := Tryd.laysM146.s1_3 w h
theorem add_none (b o j : Nat) : (⟨b, o, none⟩ : Addr).add j = ⟨b, o + j, none⟩ := by unfold Addr.add; split <;> simp_all

theorem open_bytes {H : Type} {enc : TypeId × Value → H} {W : World} {base : Nat} {spare : Nat → Bool} {held : Bool} {fuel : Nat} {cs : List Value} {x : DataW H × List MemPlace}
    (h : DataW.trod enc Tryd.prog W base spare held fuel 25 cs = some x) : ∃ (a0 : Option Addr) (cap : Nat) (zs : List Int), cs = [.slice a0 zs.length cap] ∧ (Reads W .u8 a0 zs.length zs ∧ zs.length ≤ cap ∧ cap ≤ 9223372036854775807) ∧ Bts zs := by
  rcases open_ints Tryd.underlying25 Tryd.underlying5 (by kernel_rfl) h with ⟨h0, _⟩ | ⟨a, l, c, zs, hcs, _, hl, hm, hz, _, hcell, hwz⟩
  · exact ⟨none, 0, [], h0, ⟨⟨rfl, by simp, fun h => absurd h (by simp)⟩, by simp, by decide⟩, bts_nil⟩
  · have hzl : l ≤ zs.length := by rw [hz]; split <;> omega
    have hlen : (zs.take l).length = l := by rw [List.length_take]; omega
    refine ⟨some a, c, zs.take l, by rw [hlen]; exact hcs, ⟨⟨rfl, by rw [hlen]; unfold maxLen at hm; omega, fun hn => ?_⟩, by rw [hlen]; omega, by unfold maxLen at hm; omega⟩, fun x hx => bounds_u8 (hwz x (List.mem_of_mem_take hx))⟩
    rw [hlen] at hn
    obtain ⟨b, o, spot⟩ := a
    have hc := hcell 0 (by omega)
    have hspot : spot = none := by simpa [Addr.add] using World.cell?_spot hc
    subst hspot
    refine ⟨b, o, rfl, fun j hj => ?_⟩
    rw [hlen] at hj
    have := hcell j (by omega)
    rw [add_none] at this
    rw [this]
    simp [List.getD, hj]
end Go.Proofs.YtlgonkopojancaaDoor
