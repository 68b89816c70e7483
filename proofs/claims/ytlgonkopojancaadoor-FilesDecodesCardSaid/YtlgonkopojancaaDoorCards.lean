/-
  DERIVED. GIVEN WITH THE SEED: THE CARDS: each row of YtlgonkopojancaaDoorRows.lean that lists a variable, with what it lists TIED to the program's text (the seventh form; the later family's looks); each row that meets fmt, with fmt's text TOLD by the authors' own Lean function (tested against real Go, not proved from fmt's source: count such statements apart). THE CARD IS WHAT COUNTS. Prove the row's statement (the work); the ties are given (YtlgonkopojancaaDoorTie.lean); close each card by the builder's one call (the guide's Derived/Test/ToyasCard.lean, 'card_holds'). Laid BY PROGRAM, IN A SANDBOX (cutbox-door.mjs). By AI agents, Wed Nov 11 2026. No macro, syntax, notation, axiom, sorry.
-/
import Derived.Test.YtlgonkopojancaaDoorRows
import GoSem.ClaimSeven
namespace Go.Proofs.YtlgonkopojancaaDoor
namespace Rows

/-- THE TIED CARD OF 'fardellaw16.FilesNames'. -/
def filesNamesCard : Claim7 := { stood := { row := filesNamesRow, standIns := [], harness := (true, "bab781cb85094e02df3fd490e2d8f4f1169baad32591bc4f6a6b0b38a02c5b2a"), looks := true }, kinds := [], alts := [], laidByText := true, laidKinds := [.data, .pinned], laidTests := true, laidLooks := .later }
def FilesNamesCardSaid : Prop := Claim7.holds Tryd.pinned (.plain (OpenSpec.ofChange filesNamesSpec)) filesNamesCard

/-- THE TIED CARD OF 'fardellaw16.FilesTells'. -/
def filesTellsCard : Claim7 := { stood := { row := filesTellsRow, standIns := [], harness := (true, "bab781cb85094e02df3fd490e2d8f4f1169baad32591bc4f6a6b0b38a02c5b2a"), looks := true }, kinds := [], alts := [], laidByText := true, laidKinds := [.data, .pinned], laidTests := true, laidLooks := .later }
def FilesTellsCardSaid : Prop := Claim7.holds Tryd.pinned (.plain (OpenSpec.ofChange filesTellsSpec)) filesTellsCard

/-- THE TIED CARD OF 'fardellaw16.FilesDecodes'. -/
def filesDecodesCard : Claim7 := { stood := { row := filesDecodesRow, standIns := [], harness := (true, "bab781cb85094e02df3fd490e2d8f4f1169baad32591bc4f6a6b0b38a02c5b2a"), looks := true }, kinds := [], alts := [], laidByText := true, laidKinds := [.data, .pinned], laidTests := true, laidLooks := .later }
def FilesDecodesCardSaid : Prop := Claim7.holds Tryd.pinned (.plain (OpenSpec.ofChange filesDecodesSpec)) filesDecodesCard

/-- THE TIED CARD OF 'fardellaw16.FilesBack'. -/
def filesBackCard : Claim7 := { stood := { row := filesBackRow, standIns := [], harness := (true, "bab781cb85094e02df3fd490e2d8f4f1169baad32591bc4f6a6b0b38a02c5b2a"), looks := true }, kinds := [], alts := [], laidByText := true, laidKinds := [.data, .pinned], laidTests := true, laidLooks := .later }
def FilesBackCardSaid : Prop := Claim7.holds Tryd.pinned (.plain (OpenSpec.ofChange filesBackSpec)) filesBackCard

/-- THE TIED CARD OF 'fardellaw16.FilesOrder'. -/
def filesOrderCard : Claim7 := { stood := { row := filesOrderRow, standIns := [], harness := (true, "bab781cb85094e02df3fd490e2d8f4f1169baad32591bc4f6a6b0b38a02c5b2a"), looks := true }, kinds := [], alts := [], laidByText := true, laidKinds := [.data, .pinned], laidTests := true, laidLooks := .later }
def FilesOrderCardSaid : Prop := Claim7.holds Tryd.pinned (.plain (OpenSpec.ofChange filesOrderSpec)) filesOrderCard

/-- THE TIED CARD OF 'fardellaw16.FilesOwn'. -/
def filesOwnCard : Claim7 := { stood := { row := filesOwnRow, standIns := [], harness := (true, "bab781cb85094e02df3fd490e2d8f4f1169baad32591bc4f6a6b0b38a02c5b2a"), looks := true }, kinds := [], alts := [], laidByText := true, laidKinds := [.data, .pinned], laidTests := true, laidLooks := .later }
def FilesOwnCardSaid : Prop := Claim7.holds Tryd.pinned (.plain (OpenSpec.ofChange filesOwnSpec)) filesOwnCard

/-- THE TIED CARD OF 'fardellaw16.FilesFinds'. -/
def filesFindsCard : Claim7 := { stood := { row := filesFindsRow, standIns := [], harness := (true, "bab781cb85094e02df3fd490e2d8f4f1169baad32591bc4f6a6b0b38a02c5b2a"), looks := true }, kinds := [], alts := [], laidByText := true, laidKinds := [.data, .pinned], laidTests := true, laidLooks := .later }
def FilesFindsCardSaid : Prop := Claim7.holds Tryd.pinned (.plain (OpenSpec.ofChange filesFindsSpec)) filesFindsCard

/-- THE TIED CARD OF 'fardellaw16.FilesParts'. -/
def filesPartsCard : Claim7 := { stood := { row := filesPartsRow, standIns := [], harness := (true, "bab781cb85094e02df3fd490e2d8f4f1169baad32591bc4f6a6b0b38a02c5b2a"), looks := true }, kinds := [], alts := [], laidByText := true, laidKinds := [.data, .pinned], laidTests := true, laidLooks := .later }
def FilesPartsCardSaid : Prop := Claim7.holds Tryd.pinned (.plain (OpenSpec.ofChange filesPartsSpec)) filesPartsCard

/-- THE SECOND FORM's CARD OF 'fardellaw16.FilesNames'. -/
def filesNamesUptoCard : Claim7 := { stood := { row := filesNamesUptoRow, standIns := [], harness := (true, "bab781cb85094e02df3fd490e2d8f4f1169baad32591bc4f6a6b0b38a02c5b2a"), looks := true }, kinds := [], alts := [], laidByText := true, laidKinds := [.data, .pinned], laidTests := true, laidLooks := .later }
def FilesNamesUptoCardSaid : Prop := Claim7.holds Tryd.pinned (.plain (OpenSpec.upto filesNamesSpec)) filesNamesUptoCard

/-- THE SECOND FORM's CARD OF 'fardellaw16.FilesTells'. -/
def filesTellsUptoCard : Claim7 := { stood := { row := filesTellsUptoRow, standIns := [], harness := (true, "bab781cb85094e02df3fd490e2d8f4f1169baad32591bc4f6a6b0b38a02c5b2a"), looks := true }, kinds := [], alts := [], laidByText := true, laidKinds := [.data, .pinned], laidTests := true, laidLooks := .later }
def FilesTellsUptoCardSaid : Prop := Claim7.holds Tryd.pinned (.plain (OpenSpec.upto filesTellsSpec)) filesTellsUptoCard

/-- THE SECOND FORM's CARD OF 'fardellaw16.FilesDecodes'. -/
def filesDecodesUptoCard : Claim7 := { stood := { row := filesDecodesUptoRow, standIns := [], harness := (true, "bab781cb85094e02df3fd490e2d8f4f1169baad32591bc4f6a6b0b38a02c5b2a"), looks := true }, kinds := [], alts := [], laidByText := true, laidKinds := [.data, .pinned], laidTests := true, laidLooks := .later }
def FilesDecodesUptoCardSaid : Prop := Claim7.holds Tryd.pinned (.plain (OpenSpec.upto filesDecodesSpec)) filesDecodesUptoCard

/-- THE SECOND FORM's CARD OF 'fardellaw16.FilesBack'. -/
def filesBackUptoCard : Claim7 := { stood := { row := filesBackUptoRow, standIns := [], harness := (true, "bab781cb85094e02df3fd490e2d8f4f1169baad32591bc4f6a6b0b38a02c5b2a"), looks := true }, kinds := [], alts := [], laidByText := true, laidKinds := [.data, .pinned], laidTests := true, laidLooks := .later }
def FilesBackUptoCardSaid : Prop := Claim7.holds Tryd.pinned (.plain (OpenSpec.upto filesBackSpec)) filesBackUptoCard

/-- THE SECOND FORM's CARD OF 'fardellaw16.FilesOrder'. -/
def filesOrderUptoCard : Claim7 := { stood := { row := filesOrderUptoRow, standIns := [], harness := (true, "bab781cb85094e02df3fd490e2d8f4f1169baad32591bc4f6a6b0b38a02c5b2a"), looks := true }, kinds := [], alts := [], laidByText := true, laidKinds := [.data, .pinned], laidTests := true, laidLooks := .later }
def FilesOrderUptoCardSaid : Prop := Claim7.holds Tryd.pinned (.plain (OpenSpec.upto filesOrderSpec)) filesOrderUptoCard

/-- THE SECOND FORM's CARD OF 'fardellaw16.FilesOwn'. -/
def filesOwnUptoCard : Claim7 := { stood := { row := filesOwnUptoRow, standIns := [], harness := (true, "bab781cb85094e02df3fd490e2d8f4f1169baad32591bc4f6a6b0b38a02c5b2a"), looks := true }, kinds := [], alts := [], laidByText := true, laidKinds := [.data, .pinned], laidTests := true, laidLooks := .later }
def FilesOwnUptoCardSaid : Prop := Claim7.holds Tryd.pinned (.plain (OpenSpec.upto filesOwnSpec)) filesOwnUptoCard

/-- THE SECOND FORM's CARD OF 'fardellaw16.FilesFinds'. -/
def filesFindsUptoCard : Claim7 := { stood := { row := filesFindsUptoRow, standIns := [], harness := (true, "bab781cb85094e02df3fd490e2d8f4f1169baad32591bc4f6a6b0b38a02c5b2a"), looks := true }, kinds := [], alts := [], laidByText := true, laidKinds := [.data, .pinned], laidTests := true, laidLooks := .later }
def FilesFindsUptoCardSaid : Prop := Claim7.holds Tryd.pinned (.plain (OpenSpec.upto filesFindsSpec)) filesFindsUptoCard

/-- THE SECOND FORM's CARD OF 'fardellaw16.FilesParts'. -/
def filesPartsUptoCard : Claim7 := { stood := { row := filesPartsUptoRow, standIns := [], harness := (true, "bab781cb85094e02df3fd490e2d8f4f1169baad32591bc4f6a6b0b38a02c5b2a"), looks := true }, kinds := [], alts := [], laidByText := true, laidKinds := [.data, .pinned], laidTests := true, laidLooks := .later }
def FilesPartsUptoCardSaid : Prop := Claim7.holds Tryd.pinned (.plain (OpenSpec.upto filesPartsSpec)) filesPartsUptoCard
end Rows
end Go.Proofs.YtlgonkopojancaaDoor
