/-
  NARROWER THAN 'FOR EVERY INPUT', by the rows' own cells (each row's printed sentence says how): BucketNames: laid · BucketTells: laid · BucketBack: laid · BucketLeast: laid · BucketSame: laid · BucketNext: laid · BucketZeros: laid.
  DERIVED. THE GIVEN ROWS OF THIS SEAT. 7 by the template 'for every input the law returns true; each argument reads behind the call as it read before'; 0 by the template 'total and deterministic' (their statements: YtobepippjhmeaaaDoorTotals.lean).
  GIVEN WITH THE SEED: the statements are not yours to turn. If you find one false, say at which input.
  Laid BY PROGRAM, IN A SANDBOX (cutbox-rows.mjs): the forced cells as the released guide's own fill.sh prints them over the translation edcf2829457ede90… (all of the seat's roots in one cut). By AI agents, Wed Nov 11 2026. No macro, syntax, notation, axiom, sorry.
-/
import Derived.Test.YtobepippjhmeaaaDoorChecked
import GoSem.PinnedTables
import GoSem.Claim
import GoSem.ClaimJoined
import GoSem.ClaimMapViews
import Derived.JoinedTies
import Derived.KernelRfl
namespace Go.Proofs.YtobepippjhmeaaaDoor
/- THE CELL 'sum', in the pinned program and in every row, IS THE sha256 OF THE DUMP (.gsa) THAT YtobepippjhmeaaaDoorProg.lean LOADS. Nothing in Lean hashes anything: it is a label: what it is worth is what the hold of that sum in a sandbox is worth. -/
noncomputable def Tryd.pinned : Pinned := { name := "ytobepippjhmeaaadoor", sum := "edcf2829457ede90606c2986fb577581f135050e8d94671401ad42ffe2062eda", checked := Tryd.checked }
namespace Rows
def none {H : Type} : Left H := { results := [], args := [] }

/- WHAT THE LISTED PACKAGE-LEVEL VARIABLES READ AS WHEN THE CALL BEGINS. Each datum BY PROGRAM (the guide's laid-datum.mjs) off the statement by which the dump's own 'gosem.cut.vars' lays the variable. In a bare row this is a premise. The card (YtobepippjhmeaaaDoorCards.lean) ties it to the program's text. -/
def laid_unicode_utf8_acceptRanges {H : Type} : DataW H := .agg [.agg [.lit (.int .u8 128), .lit (.int .u8 191)], .agg [.lit (.int .u8 160), .lit (.int .u8 191)], .agg [.lit (.int .u8 128), .lit (.int .u8 159)], .agg [.lit (.int .u8 144), .lit (.int .u8 191)], .agg [.lit (.int .u8 128), .lit (.int .u8 143)], .agg [.lit (.int .u8 0), .lit (.int .u8 0)], .agg [.lit (.int .u8 0), .lit (.int .u8 0)], .agg [.lit (.int .u8 0), .lit (.int .u8 0)], .agg [.lit (.int .u8 0), .lit (.int .u8 0)], .agg [.lit (.int .u8 0), .lit (.int .u8 0)], .agg [.lit (.int .u8 0), .lit (.int .u8 0)], .agg [.lit (.int .u8 0), .lit (.int .u8 0)], .agg [.lit (.int .u8 0), .lit (.int .u8 0)], .agg [.lit (.int .u8 0), .lit (.int .u8 0)], .agg [.lit (.int .u8 0), .lit (.int .u8 0)], .agg [.lit (.int .u8 0), .lit (.int .u8 0)]]
/-- One of Go's own tables, pinned by name: the form's constant. -/
def laid_unicode_utf8_first : DataW Unit := Go.Pinned.utf8First

/-- 'fardellaw17.BucketNames': WHATEVER THE INPUT: true; the input reads as it did. -/
def bucketNamesSpec : ChangeSpec := { name := "bucketNames", fn := fun _ => fun
  | [] => { results := [.lit (.bool true)], args := [] }
  | _ => none }
def bucketNamesRow : OpenClaim := { program := "ytobepippjhmeaaadoor", sum := "edcf2829457ede90606c2986fb577581f135050e8d94671401ad42ffe2062eda", func := "fardel/fardellaw17.BucketNames", spec := "bucketNames", named := ["unicode/utf8.first", "unicode/utf8.acceptRanges"], apart := false, laid := [("unicode/utf8.acceptRanges", laid_unicode_utf8_acceptRanges), ("unicode/utf8.first", laid_unicode_utf8_first)] }
def BucketNamesSaid : Prop := bucketNamesRow.holds Tryd.pinned (OpenSpec.ofChange bucketNamesSpec)

/-- ITS FALSE NEIGHBOUR: 'it returns false'. Refute it at one input. -/
def bucketNamesWrong : ChangeSpec := { name := "bucketNames", fn := fun _ => fun
  | [] => { results := [.lit (.bool false)], args := [] }
  | _ => none }
def BucketNamesWrongFalsely : Prop := bucketNamesRow.holds Tryd.pinned (OpenSpec.ofChange bucketNamesWrong)

/-- 'fardellaw17.BucketTells': WHATEVER THE INPUT: true; the input reads as it did. -/
def bucketTellsSpec : ChangeSpec := { name := "bucketTells", fn := fun _ => fun
  | [d1, d2, d3] => { results := [.lit (.bool true)], args := [d1, d2, d3] }
  | _ => none }
def bucketTellsRow : OpenClaim := { program := "ytobepippjhmeaaadoor", sum := "edcf2829457ede90606c2986fb577581f135050e8d94671401ad42ffe2062eda", func := "fardel/fardellaw17.BucketTells", spec := "bucketTells", named := ["unicode/utf8.first", "unicode/utf8.acceptRanges"], apart := false, laid := [("unicode/utf8.acceptRanges", laid_unicode_utf8_acceptRanges), ("unicode/utf8.first", laid_unicode_utf8_first)] }
def BucketTellsSaid : Prop := bucketTellsRow.holds Tryd.pinned (OpenSpec.ofChange bucketTellsSpec)

/-- ITS FALSE NEIGHBOUR: 'it returns false'. Refute it at one input. -/
def bucketTellsWrong : ChangeSpec := { name := "bucketTells", fn := fun _ => fun
  | [d1, d2, d3] => { results := [.lit (.bool false)], args := [d1, d2, d3] }
  | _ => none }
def BucketTellsWrongFalsely : Prop := bucketTellsRow.holds Tryd.pinned (OpenSpec.ofChange bucketTellsWrong)

/-- 'fardellaw17.BucketBack': WHATEVER THE INPUT: true; the input reads as it did. -/
def bucketBackSpec : ChangeSpec := { name := "bucketBack", fn := fun _ => fun
  | [d1, d2] => { results := [.lit (.bool true)], args := [d1, d2] }
  | _ => none }
def bucketBackRow : OpenClaim := { program := "ytobepippjhmeaaadoor", sum := "edcf2829457ede90606c2986fb577581f135050e8d94671401ad42ffe2062eda", func := "fardel/fardellaw17.BucketBack", spec := "bucketBack", named := ["unicode/utf8.first", "unicode/utf8.acceptRanges"], apart := false, laid := [("unicode/utf8.acceptRanges", laid_unicode_utf8_acceptRanges), ("unicode/utf8.first", laid_unicode_utf8_first)] }
def BucketBackSaid : Prop := bucketBackRow.holds Tryd.pinned (OpenSpec.ofChange bucketBackSpec)

/-- ITS FALSE NEIGHBOUR: 'it returns false'. Refute it at one input. -/
def bucketBackWrong : ChangeSpec := { name := "bucketBack", fn := fun _ => fun
  | [d1, d2] => { results := [.lit (.bool false)], args := [d1, d2] }
  | _ => none }
def BucketBackWrongFalsely : Prop := bucketBackRow.holds Tryd.pinned (OpenSpec.ofChange bucketBackWrong)

/-- 'fardellaw17.BucketLeast': WHATEVER THE INPUT: true; the input reads as it did. -/
def bucketLeastSpec : ChangeSpec := { name := "bucketLeast", fn := fun _ => fun
  | [d1, d2] => { results := [.lit (.bool true)], args := [d1, d2] }
  | _ => none }
def bucketLeastRow : OpenClaim := { program := "ytobepippjhmeaaadoor", sum := "edcf2829457ede90606c2986fb577581f135050e8d94671401ad42ffe2062eda", func := "fardel/fardellaw17.BucketLeast", spec := "bucketLeast", named := ["unicode/utf8.first", "unicode/utf8.acceptRanges"], apart := false, laid := [("unicode/utf8.acceptRanges", laid_unicode_utf8_acceptRanges), ("unicode/utf8.first", laid_unicode_utf8_first)] }
def BucketLeastSaid : Prop := bucketLeastRow.holds Tryd.pinned (OpenSpec.ofChange bucketLeastSpec)

/-- ITS FALSE NEIGHBOUR: 'it returns false'. Refute it at one input. -/
def bucketLeastWrong : ChangeSpec := { name := "bucketLeast", fn := fun _ => fun
  | [d1, d2] => { results := [.lit (.bool false)], args := [d1, d2] }
  | _ => none }
def BucketLeastWrongFalsely : Prop := bucketLeastRow.holds Tryd.pinned (OpenSpec.ofChange bucketLeastWrong)

/-- 'fardellaw17.BucketSame': WHATEVER THE INPUT: true; the input reads as it did. -/
def bucketSameSpec : ChangeSpec := { name := "bucketSame", fn := fun _ => fun
  | [d1, d2] => { results := [.lit (.bool true)], args := [d1, d2] }
  | _ => none }
def bucketSameRow : OpenClaim := { program := "ytobepippjhmeaaadoor", sum := "edcf2829457ede90606c2986fb577581f135050e8d94671401ad42ffe2062eda", func := "fardel/fardellaw17.BucketSame", spec := "bucketSame", named := ["unicode/utf8.first", "unicode/utf8.acceptRanges"], apart := false, laid := [("unicode/utf8.acceptRanges", laid_unicode_utf8_acceptRanges), ("unicode/utf8.first", laid_unicode_utf8_first)] }
def BucketSameSaid : Prop := bucketSameRow.holds Tryd.pinned (OpenSpec.ofChange bucketSameSpec)

/-- ITS FALSE NEIGHBOUR: 'it returns false'. Refute it at one input. -/
def bucketSameWrong : ChangeSpec := { name := "bucketSame", fn := fun _ => fun
  | [d1, d2] => { results := [.lit (.bool false)], args := [d1, d2] }
  | _ => none }
def BucketSameWrongFalsely : Prop := bucketSameRow.holds Tryd.pinned (OpenSpec.ofChange bucketSameWrong)

/-- 'fardellaw17.BucketNext': WHATEVER THE INPUT: true; the input reads as it did. -/
def bucketNextSpec : ChangeSpec := { name := "bucketNext", fn := fun _ => fun
  | [d] => { results := [.lit (.bool true)], args := [d] }
  | _ => none }
def bucketNextRow : OpenClaim := { program := "ytobepippjhmeaaadoor", sum := "edcf2829457ede90606c2986fb577581f135050e8d94671401ad42ffe2062eda", func := "fardel/fardellaw17.BucketNext", spec := "bucketNext", named := ["unicode/utf8.first", "unicode/utf8.acceptRanges"], apart := false, laid := [("unicode/utf8.acceptRanges", laid_unicode_utf8_acceptRanges), ("unicode/utf8.first", laid_unicode_utf8_first)] }
def BucketNextSaid : Prop := bucketNextRow.holds Tryd.pinned (OpenSpec.ofChange bucketNextSpec)

/-- ITS FALSE NEIGHBOUR: 'it returns false'. Refute it at one input. -/
def bucketNextWrong : ChangeSpec := { name := "bucketNext", fn := fun _ => fun
  | [d] => { results := [.lit (.bool false)], args := [d] }
  | _ => none }
def BucketNextWrongFalsely : Prop := bucketNextRow.holds Tryd.pinned (OpenSpec.ofChange bucketNextWrong)

/-- 'fardellaw17.BucketZeros': WHATEVER THE INPUT: true; the input reads as it did. -/
def bucketZerosSpec : ChangeSpec := { name := "bucketZeros", fn := fun _ => fun
  | [d1, d2, d3] => { results := [.lit (.bool true)], args := [d1, d2, d3] }
  | _ => none }
def bucketZerosRow : OpenClaim := { program := "ytobepippjhmeaaadoor", sum := "edcf2829457ede90606c2986fb577581f135050e8d94671401ad42ffe2062eda", func := "fardel/fardellaw17.BucketZeros", spec := "bucketZeros", named := ["unicode/utf8.first", "unicode/utf8.acceptRanges"], apart := false, laid := [("unicode/utf8.acceptRanges", laid_unicode_utf8_acceptRanges), ("unicode/utf8.first", laid_unicode_utf8_first)] }
def BucketZerosSaid : Prop := bucketZerosRow.holds Tryd.pinned (OpenSpec.ofChange bucketZerosSpec)

/-- ITS FALSE NEIGHBOUR: 'it returns false'. Refute it at one input. -/
def bucketZerosWrong : ChangeSpec := { name := "bucketZeros", fn := fun _ => fun
  | [d1, d2, d3] => { results := [.lit (.bool false)], args := [d1, d2, d3] }
  | _ => none }
def BucketZerosWrongFalsely : Prop := bucketZerosRow.holds Tryd.pinned (OpenSpec.ofChange bucketZerosWrong)

/- THE SECOND FORM. 'bulk': how many values and letters a reading holds, each counted each time it is reached (what is shared counts as often as it is met; a slice's spare places count too). A statement '..UptoSaid' is the law's where the arguments, and the package variables that the reading takes, are together of bulk at most 1048576: NARROWER than '..Said'. Prove '..Said' where nothing that the law and all that it calls make is longer than what came in: it says more and counts as full. Else prove '..UptoSaid'. A law counts once. -/
mutual
def uptoBulk {H : Type} : DataW H → Nat
  | .lit (.string bytes) => bytes.length + 1
  | .lit _ => 1
  | .nil => 1
  | .ptr d => uptoBulk d + 1
  | .slice elems spare => uptoBulkAll elems + uptoBulkAll spare + 1
  | .agg parts => uptoBulkAll parts + 1
  | .iface _ d => uptoBulk d + 1
  | .map entries => uptoBulkEntries entries + 1
  | .held _ => 1
def uptoBulkAll {H : Type} : List (DataW H) → Nat
  | [] => 0
  | d :: r => uptoBulk d + uptoBulkAll r
def uptoBulkEntries {H : Type} : List (Lit × DataW H) → Nat
  | [] => 0
  | x :: r => uptoBulkEntry x + uptoBulkEntries r
def uptoBulkEntry {H : Type} : Lit × DataW H → Nat
  | (.string bytes, d) => bytes.length + uptoBulk d + 1
  | (_, d) => uptoBulk d + 1
 end
def uptoSmall : (H : Type) → List (DataW H) → Bool := fun _ ds => decide (uptoBulkAll ds ≤ 1048576)
def OpenSpec.upto (s : _root_.Go.ChangeSpec) : _root_.Go.OpenSpec := { _root_.Go.OpenSpec.ofChange s with cond := some uptoSmall }

/-- 'fardellaw17.BucketNames', WHERE WHAT IT READS IS OF BULK AT MOST 1048576: true; the input reads as it did. -/
def bucketNamesUptoRow : OpenClaim := { program := "ytobepippjhmeaaadoor", sum := "edcf2829457ede90606c2986fb577581f135050e8d94671401ad42ffe2062eda", func := "fardel/fardellaw17.BucketNames", spec := "bucketNames", named := ["unicode/utf8.first", "unicode/utf8.acceptRanges"], apart := false, laid := [("unicode/utf8.acceptRanges", laid_unicode_utf8_acceptRanges), ("unicode/utf8.first", laid_unicode_utf8_first)], narrowed := true }
def BucketNamesUptoSaid : Prop := bucketNamesUptoRow.holds Tryd.pinned (OpenSpec.upto bucketNamesSpec)

/-- 'fardellaw17.BucketTells', WHERE WHAT IT READS IS OF BULK AT MOST 1048576: true; the input reads as it did. -/
def bucketTellsUptoRow : OpenClaim := { program := "ytobepippjhmeaaadoor", sum := "edcf2829457ede90606c2986fb577581f135050e8d94671401ad42ffe2062eda", func := "fardel/fardellaw17.BucketTells", spec := "bucketTells", named := ["unicode/utf8.first", "unicode/utf8.acceptRanges"], apart := false, laid := [("unicode/utf8.acceptRanges", laid_unicode_utf8_acceptRanges), ("unicode/utf8.first", laid_unicode_utf8_first)], narrowed := true }
def BucketTellsUptoSaid : Prop := bucketTellsUptoRow.holds Tryd.pinned (OpenSpec.upto bucketTellsSpec)

/-- 'fardellaw17.BucketBack', WHERE WHAT IT READS IS OF BULK AT MOST 1048576: true; the input reads as it did. -/
def bucketBackUptoRow : OpenClaim := { program := "ytobepippjhmeaaadoor", sum := "edcf2829457ede90606c2986fb577581f135050e8d94671401ad42ffe2062eda", func := "fardel/fardellaw17.BucketBack", spec := "bucketBack", named := ["unicode/utf8.first", "unicode/utf8.acceptRanges"], apart := false, laid := [("unicode/utf8.acceptRanges", laid_unicode_utf8_acceptRanges), ("unicode/utf8.first", laid_unicode_utf8_first)], narrowed := true }
def BucketBackUptoSaid : Prop := bucketBackUptoRow.holds Tryd.pinned (OpenSpec.upto bucketBackSpec)

/-- 'fardellaw17.BucketLeast', WHERE WHAT IT READS IS OF BULK AT MOST 1048576: true; the input reads as it did. -/
def bucketLeastUptoRow : OpenClaim := { program := "ytobepippjhmeaaadoor", sum := "edcf2829457ede90606c2986fb577581f135050e8d94671401ad42ffe2062eda", func := "fardel/fardellaw17.BucketLeast", spec := "bucketLeast", named := ["unicode/utf8.first", "unicode/utf8.acceptRanges"], apart := false, laid := [("unicode/utf8.acceptRanges", laid_unicode_utf8_acceptRanges), ("unicode/utf8.first", laid_unicode_utf8_first)], narrowed := true }
def BucketLeastUptoSaid : Prop := bucketLeastUptoRow.holds Tryd.pinned (OpenSpec.upto bucketLeastSpec)

/-- 'fardellaw17.BucketSame', WHERE WHAT IT READS IS OF BULK AT MOST 1048576: true; the input reads as it did. -/
def bucketSameUptoRow : OpenClaim := { program := "ytobepippjhmeaaadoor", sum := "edcf2829457ede90606c2986fb577581f135050e8d94671401ad42ffe2062eda", func := "fardel/fardellaw17.BucketSame", spec := "bucketSame", named := ["unicode/utf8.first", "unicode/utf8.acceptRanges"], apart := false, laid := [("unicode/utf8.acceptRanges", laid_unicode_utf8_acceptRanges), ("unicode/utf8.first", laid_unicode_utf8_first)], narrowed := true }
def BucketSameUptoSaid : Prop := bucketSameUptoRow.holds Tryd.pinned (OpenSpec.upto bucketSameSpec)

/-- 'fardellaw17.BucketNext', WHERE WHAT IT READS IS OF BULK AT MOST 1048576: true; the input reads as it did. -/
def bucketNextUptoRow : OpenClaim := { program := "ytobepippjhmeaaadoor", sum := "edcf2829457ede90606c2986fb577581f135050e8d94671401ad42ffe2062eda", func := "fardel/fardellaw17.BucketNext", spec := "bucketNext", named := ["unicode/utf8.first", "unicode/utf8.acceptRanges"], apart := false, laid := [("unicode/utf8.acceptRanges", laid_unicode_utf8_acceptRanges), ("unicode/utf8.first", laid_unicode_utf8_first)], narrowed := true }
def BucketNextUptoSaid : Prop := bucketNextUptoRow.holds Tryd.pinned (OpenSpec.upto bucketNextSpec)

/-- 'fardellaw17.BucketZeros', WHERE WHAT IT READS IS OF BULK AT MOST 1048576: true; the input reads as it did. -/
def bucketZerosUptoRow : OpenClaim := { program := "ytobepippjhmeaaadoor", sum := "edcf2829457ede90606c2986fb577581f135050e8d94671401ad42ffe2062eda", func := "fardel/fardellaw17.BucketZeros", spec := "bucketZeros", named := ["unicode/utf8.first", "unicode/utf8.acceptRanges"], apart := false, laid := [("unicode/utf8.acceptRanges", laid_unicode_utf8_acceptRanges), ("unicode/utf8.first", laid_unicode_utf8_first)], narrowed := true }
def BucketZerosUptoSaid : Prop := bucketZerosUptoRow.holds Tryd.pinned (OpenSpec.upto bucketZerosSpec)

end Rows
end Go.Proofs.YtobepippjhmeaaaDoor
