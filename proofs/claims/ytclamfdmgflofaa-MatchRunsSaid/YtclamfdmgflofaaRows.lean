/-
  No cell of these rows narrows 'for every input' (looked for: loops, veiled, ifaces, maps, wideKeys, modest, calm, conditions, laid).
  DERIVED. THE GIVEN ROWS OF THIS SEAT. 7 by the template 'for every input the law returns true; each argument reads behind the call as it read before'; 0 by the template 'total and deterministic' (their statements: YtclamfdmgflofaaTotals.lean).
  GIVEN WITH THE SEED: the statements are not yours to turn. If you find one false, say at which input.
  Laid BY PROGRAM, IN A SANDBOX (cutbox-rows.mjs): the forced cells as the released guide's own fill.sh prints them over the translation 4a910b92308af40f… (all of the seat's roots in one cut). By AI agents, Wed Nov 11 2026. No macro, syntax, notation, axiom, sorry.
-/
import Derived.Test.YtclamfdmgflofaaChecked
import GoSem.Claim
import GoSem.ClaimJoined
import GoSem.ClaimMapViews
import Derived.JoinedTies
import Derived.KernelRfl
namespace Go.Proofs.Ytclamfdmgflofaa
/- THE CELL 'sum', in the pinned program and in every row, IS THE sha256 OF THE DUMP (.gsa) THAT YtclamfdmgflofaaProg.lean LOADS. Nothing in Lean hashes anything: it is a label: what it is worth is what the hold of that sum in a sandbox is worth. -/
noncomputable def Try.pinned : Pinned := { name := "ytclamfdmgflofaa", sum := "4a910b92308af40f1d22045045d629c6431801b8cc36b533a678c5a1036e3714", checked := Try.checked }
namespace Rows
def none {H : Type} : Left H := { results := [], args := [] }

/-- 'fardellaw14.MatchNames': WHATEVER THE INPUT: true; the input reads as it did. -/
def matchNamesSpec : ChangeSpec := { name := "matchNames", fn := fun _ => fun
  | [] => { results := [.lit (.bool true)], args := [] }
  | _ => none }
def matchNamesRow : OpenClaim := { program := "ytclamfdmgflofaa", sum := "4a910b92308af40f1d22045045d629c6431801b8cc36b533a678c5a1036e3714", func := "fardel/fardellaw14.MatchNames", spec := "matchNames", plainKeys := false, apart := false }
def MatchNamesSaid : Prop := matchNamesRow.holds Try.pinned (OpenSpec.ofChange matchNamesSpec)

/-- ITS FALSE NEIGHBOUR: 'it returns false'. Refute it at one input. -/
def matchNamesWrong : ChangeSpec := { name := "matchNames", fn := fun _ => fun
  | [] => { results := [.lit (.bool false)], args := [] }
  | _ => none }
def MatchNamesWrongFalsely : Prop := matchNamesRow.holds Try.pinned (OpenSpec.ofChange matchNamesWrong)

/-- 'fardellaw14.MatchFinds': WHATEVER THE INPUT: true; the input reads as it did. -/
def matchFindsSpec : ChangeSpec := { name := "matchFinds", fn := fun _ => fun
  | [d] => { results := [.lit (.bool true)], args := [d] }
  | _ => none }
def matchFindsRow : OpenClaim := { program := "ytclamfdmgflofaa", sum := "4a910b92308af40f1d22045045d629c6431801b8cc36b533a678c5a1036e3714", func := "fardel/fardellaw14.MatchFinds", spec := "matchFinds", plainKeys := false, apart := false }
def MatchFindsSaid : Prop := matchFindsRow.holds Try.pinned (OpenSpec.ofChange matchFindsSpec)

/-- ITS FALSE NEIGHBOUR: 'it returns false'. Refute it at one input. -/
def matchFindsWrong : ChangeSpec := { name := "matchFinds", fn := fun _ => fun
  | [d] => { results := [.lit (.bool false)], args := [d] }
  | _ => none }
def MatchFindsWrongFalsely : Prop := matchFindsRow.holds Try.pinned (OpenSpec.ofChange matchFindsWrong)

/-- 'fardellaw14.MatchExpands': WHATEVER THE INPUT: true; the input reads as it did. -/
def matchExpandsSpec : ChangeSpec := { name := "matchExpands", fn := fun _ => fun
  | [d1, d2, d3] => { results := [.lit (.bool true)], args := [d1, d2, d3] }
  | _ => none }
def matchExpandsRow : OpenClaim := { program := "ytclamfdmgflofaa", sum := "4a910b92308af40f1d22045045d629c6431801b8cc36b533a678c5a1036e3714", func := "fardel/fardellaw14.MatchExpands", spec := "matchExpands", plainKeys := false, apart := false }
def MatchExpandsSaid : Prop := matchExpandsRow.holds Try.pinned (OpenSpec.ofChange matchExpandsSpec)

/-- ITS FALSE NEIGHBOUR: 'it returns false'. Refute it at one input. -/
def matchExpandsWrong : ChangeSpec := { name := "matchExpands", fn := fun _ => fun
  | [d1, d2, d3] => { results := [.lit (.bool false)], args := [d1, d2, d3] }
  | _ => none }
def MatchExpandsWrongFalsely : Prop := matchExpandsRow.holds Try.pinned (OpenSpec.ofChange matchExpandsWrong)

/-- 'fardellaw14.MatchBack': WHATEVER THE INPUT: true; the input reads as it did. -/
def matchBackSpec : ChangeSpec := { name := "matchBack", fn := fun _ => fun
  | [d1, d2] => { results := [.lit (.bool true)], args := [d1, d2] }
  | _ => none }
def matchBackRow : OpenClaim := { program := "ytclamfdmgflofaa", sum := "4a910b92308af40f1d22045045d629c6431801b8cc36b533a678c5a1036e3714", func := "fardel/fardellaw14.MatchBack", spec := "matchBack", plainKeys := false, apart := false }
def MatchBackSaid : Prop := matchBackRow.holds Try.pinned (OpenSpec.ofChange matchBackSpec)

/-- ITS FALSE NEIGHBOUR: 'it returns false'. Refute it at one input. -/
def matchBackWrong : ChangeSpec := { name := "matchBack", fn := fun _ => fun
  | [d1, d2] => { results := [.lit (.bool false)], args := [d1, d2] }
  | _ => none }
def MatchBackWrongFalsely : Prop := matchBackRow.holds Try.pinned (OpenSpec.ofChange matchBackWrong)

/-- 'fardellaw14.MatchRuns': WHATEVER THE INPUT: true; the input reads as it did. -/
def matchRunsSpec : ChangeSpec := { name := "matchRuns", fn := fun _ => fun
  | [d1, d2, d3] => { results := [.lit (.bool true)], args := [d1, d2, d3] }
  | _ => none }
def matchRunsRow : OpenClaim := { program := "ytclamfdmgflofaa", sum := "4a910b92308af40f1d22045045d629c6431801b8cc36b533a678c5a1036e3714", func := "fardel/fardellaw14.MatchRuns", spec := "matchRuns", plainKeys := false, apart := false }
def MatchRunsSaid : Prop := matchRunsRow.holds Try.pinned (OpenSpec.ofChange matchRunsSpec)

/-- ITS FALSE NEIGHBOUR: 'it returns false'. Refute it at one input. -/
def matchRunsWrong : ChangeSpec := { name := "matchRuns", fn := fun _ => fun
  | [d1, d2, d3] => { results := [.lit (.bool false)], args := [d1, d2, d3] }
  | _ => none }
def MatchRunsWrongFalsely : Prop := matchRunsRow.holds Try.pinned (OpenSpec.ofChange matchRunsWrong)

/-- 'fardellaw14.MatchSplit': WHATEVER THE INPUT: true; the input reads as it did. -/
def matchSplitSpec : ChangeSpec := { name := "matchSplit", fn := fun _ => fun
  | [d1, d2] => { results := [.lit (.bool true)], args := [d1, d2] }
  | _ => none }
def matchSplitRow : OpenClaim := { program := "ytclamfdmgflofaa", sum := "4a910b92308af40f1d22045045d629c6431801b8cc36b533a678c5a1036e3714", func := "fardel/fardellaw14.MatchSplit", spec := "matchSplit", plainKeys := false, apart := false }
def MatchSplitSaid : Prop := matchSplitRow.holds Try.pinned (OpenSpec.ofChange matchSplitSpec)

/-- ITS FALSE NEIGHBOUR: 'it returns false'. Refute it at one input. -/
def matchSplitWrong : ChangeSpec := { name := "matchSplit", fn := fun _ => fun
  | [d1, d2] => { results := [.lit (.bool false)], args := [d1, d2] }
  | _ => none }
def MatchSplitWrongFalsely : Prop := matchSplitRow.holds Try.pinned (OpenSpec.ofChange matchSplitWrong)

/-- 'fardellaw14.MatchBytes': WHATEVER THE INPUT: true; the input reads as it did. -/
def matchBytesSpec : ChangeSpec := { name := "matchBytes", fn := fun _ => fun
  | [d] => { results := [.lit (.bool true)], args := [d] }
  | _ => none }
def matchBytesRow : OpenClaim := { program := "ytclamfdmgflofaa", sum := "4a910b92308af40f1d22045045d629c6431801b8cc36b533a678c5a1036e3714", func := "fardel/fardellaw14.MatchBytes", spec := "matchBytes", plainKeys := false, apart := false }
def MatchBytesSaid : Prop := matchBytesRow.holds Try.pinned (OpenSpec.ofChange matchBytesSpec)

/-- ITS FALSE NEIGHBOUR: 'it returns false'. Refute it at one input. -/
def matchBytesWrong : ChangeSpec := { name := "matchBytes", fn := fun _ => fun
  | [d] => { results := [.lit (.bool false)], args := [d] }
  | _ => none }
def MatchBytesWrongFalsely : Prop := matchBytesRow.holds Try.pinned (OpenSpec.ofChange matchBytesWrong)

/- THE SECOND FORM. 'bulk': how many values and letters a reading holds, each counted each time it is reached (what is shared counts as often as it is met; a slice's spare places count too). A statement '..UptoSaid' is the law's where the arguments, and the package variables that the reading takes, are together of bulk at most 1048576: NARROWER than '..Said'. Prove '..Said' where nothing that the law and all that it calls make is longer than what came in: it says more and counts as full. Else prove '..UptoSaid'. A law counts once. -/
mutual
def uptoBulk {H : Type} : DataW H → Nat
  | .lit (.string bytes) => bytes.length + 1
  | .lit _ => 1
  | .nil => 1
  | .ptr d => uptoBulk d + 1
  | .slice elems spare => uptoBulkAll elems + uptoBulkAll spare + 1
  | .agg parts => uptoBulkAll parts + 1
  | .iface _ d => uptoBulk d + 1
  | .map entries => uptoBulkEntries entries + 1
  | .held _ => 1
def uptoBulkAll {H : Type} : List (DataW H) → Nat
  | [] => 0
  | d :: r => uptoBulk d + uptoBulkAll r
def uptoBulkEntries {H : Type} : List (Lit × DataW H) → Nat
  | [] => 0
  | x :: r => uptoBulkEntry x + uptoBulkEntries r
def uptoBulkEntry {H : Type} : Lit × DataW H → Nat
  | (.string bytes, d) => bytes.length + uptoBulk d + 1
  | (_, d) => uptoBulk d + 1
 end
def uptoSmall : (H : Type) → List (DataW H) → Bool := fun _ ds => decide (uptoBulkAll ds ≤ 1048576)
def OpenSpec.upto (s : _root_.Go.ChangeSpec) : _root_.Go.OpenSpec := { _root_.Go.OpenSpec.ofChange s with cond := some uptoSmall }

/-- 'fardellaw14.MatchNames', WHERE WHAT IT READS IS OF BULK AT MOST 1048576: true; the input reads as it did. -/
def matchNamesUptoRow : OpenClaim := { program := "ytclamfdmgflofaa", sum := "4a910b92308af40f1d22045045d629c6431801b8cc36b533a678c5a1036e3714", func := "fardel/fardellaw14.MatchNames", spec := "matchNames", plainKeys := false, apart := false, narrowed := true }
def MatchNamesUptoSaid : Prop := matchNamesUptoRow.holds Try.pinned (OpenSpec.upto matchNamesSpec)

/-- 'fardellaw14.MatchFinds', WHERE WHAT IT READS IS OF BULK AT MOST 1048576: true; the input reads as it did. -/
def matchFindsUptoRow : OpenClaim := { program := "ytclamfdmgflofaa", sum := "4a910b92308af40f1d22045045d629c6431801b8cc36b533a678c5a1036e3714", func := "fardel/fardellaw14.MatchFinds", spec := "matchFinds", plainKeys := false, apart := false, narrowed := true }
def MatchFindsUptoSaid : Prop := matchFindsUptoRow.holds Try.pinned (OpenSpec.upto matchFindsSpec)

/-- 'fardellaw14.MatchExpands', WHERE WHAT IT READS IS OF BULK AT MOST 1048576: true; the input reads as it did. -/
def matchExpandsUptoRow : OpenClaim := { program := "ytclamfdmgflofaa", sum := "4a910b92308af40f1d22045045d629c6431801b8cc36b533a678c5a1036e3714", func := "fardel/fardellaw14.MatchExpands", spec := "matchExpands", plainKeys := false, apart := false, narrowed := true }
def MatchExpandsUptoSaid : Prop := matchExpandsUptoRow.holds Try.pinned (OpenSpec.upto matchExpandsSpec)

/-- 'fardellaw14.MatchBack', WHERE WHAT IT READS IS OF BULK AT MOST 1048576: true; the input reads as it did. -/
def matchBackUptoRow : OpenClaim := { program := "ytclamfdmgflofaa", sum := "4a910b92308af40f1d22045045d629c6431801b8cc36b533a678c5a1036e3714", func := "fardel/fardellaw14.MatchBack", spec := "matchBack", plainKeys := false, apart := false, narrowed := true }
def MatchBackUptoSaid : Prop := matchBackUptoRow.holds Try.pinned (OpenSpec.upto matchBackSpec)

/-- 'fardellaw14.MatchRuns', WHERE WHAT IT READS IS OF BULK AT MOST 1048576: true; the input reads as it did. -/
def matchRunsUptoRow : OpenClaim := { program := "ytclamfdmgflofaa", sum := "4a910b92308af40f1d22045045d629c6431801b8cc36b533a678c5a1036e3714", func := "fardel/fardellaw14.MatchRuns", spec := "matchRuns", plainKeys := false, apart := false, narrowed := true }
def MatchRunsUptoSaid : Prop := matchRunsUptoRow.holds Try.pinned (OpenSpec.upto matchRunsSpec)

/-- 'fardellaw14.MatchSplit', WHERE WHAT IT READS IS OF BULK AT MOST 1048576: true; the input reads as it did. -/
def matchSplitUptoRow : OpenClaim := { program := "ytclamfdmgflofaa", sum := "4a910b92308af40f1d22045045d629c6431801b8cc36b533a678c5a1036e3714", func := "fardel/fardellaw14.MatchSplit", spec := "matchSplit", plainKeys := false, apart := false, narrowed := true }
def MatchSplitUptoSaid : Prop := matchSplitUptoRow.holds Try.pinned (OpenSpec.upto matchSplitSpec)

/-- 'fardellaw14.MatchBytes', WHERE WHAT IT READS IS OF BULK AT MOST 1048576: true; the input reads as it did. -/
def matchBytesUptoRow : OpenClaim := { program := "ytclamfdmgflofaa", sum := "4a910b92308af40f1d22045045d629c6431801b8cc36b533a678c5a1036e3714", func := "fardel/fardellaw14.MatchBytes", spec := "matchBytes", plainKeys := false, apart := false, narrowed := true }
def MatchBytesUptoSaid : Prop := matchBytesUptoRow.holds Try.pinned (OpenSpec.upto matchBytesSpec)

end Rows
end Go.Proofs.Ytclamfdmgflofaa
