/-
  DERIVED. GIVEN WITH THE SEED: THE CARDS: each row of YtobepippjhmeaaaDoorRows.lean that lists a variable, with what it lists TIED to the program's text (the seventh form; the later family's looks); each row that meets fmt, with fmt's text TOLD by the authors' own Lean function (tested against real Go, not proved from fmt's source: count such statements apart). THE CARD IS WHAT COUNTS. Prove the row's statement (the work); the ties are given (YtobepippjhmeaaaDoorTie.lean); close each card by the builder's one call (the guide's Derived/Test/ToyasCard.lean, 'card_holds'). Laid BY PROGRAM, IN A SANDBOX (cutbox-door.mjs). By AI agents, Wed Nov 11 2026. No macro, syntax, notation, axiom, sorry.
-/
import Derived.Test.YtobepippjhmeaaaDoorRows
import GoSem.ClaimSeven
namespace Go.Proofs.YtobepippjhmeaaaDoor
namespace Rows

/-- THE TIED CARD OF 'fardellaw17.BucketNames'. -/
def bucketNamesCard : Claim7 := { stood := { row := bucketNamesRow, standIns := [], harness := (true, "e700fd710cd6f9c2f2e1a29536a9224054649ec2fbf0b6cfc9f6fbbd24cd7a5e"), looks := false }, kinds := [], alts := [], laidByText := true, laidKinds := [.data, .pinned], laidTests := true, laidLooks := .later }
def BucketNamesCardSaid : Prop := Claim7.holds Tryd.pinned (.plain (OpenSpec.ofChange bucketNamesSpec)) bucketNamesCard

/-- THE TIED CARD OF 'fardellaw17.BucketTells'. -/
def bucketTellsCard : Claim7 := { stood := { row := bucketTellsRow, standIns := [], harness := (true, "e700fd710cd6f9c2f2e1a29536a9224054649ec2fbf0b6cfc9f6fbbd24cd7a5e"), looks := false }, kinds := [], alts := [], laidByText := true, laidKinds := [.data, .pinned], laidTests := true, laidLooks := .later }
def BucketTellsCardSaid : Prop := Claim7.holds Tryd.pinned (.plain (OpenSpec.ofChange bucketTellsSpec)) bucketTellsCard

/-- THE TIED CARD OF 'fardellaw17.BucketBack'. -/
def bucketBackCard : Claim7 := { stood := { row := bucketBackRow, standIns := [], harness := (true, "e700fd710cd6f9c2f2e1a29536a9224054649ec2fbf0b6cfc9f6fbbd24cd7a5e"), looks := false }, kinds := [], alts := [], laidByText := true, laidKinds := [.data, .pinned], laidTests := true, laidLooks := .later }
def BucketBackCardSaid : Prop := Claim7.holds Tryd.pinned (.plain (OpenSpec.ofChange bucketBackSpec)) bucketBackCard

/-- THE TIED CARD OF 'fardellaw17.BucketLeast'. -/
def bucketLeastCard : Claim7 := { stood := { row := bucketLeastRow, standIns := [], harness := (true, "e700fd710cd6f9c2f2e1a29536a9224054649ec2fbf0b6cfc9f6fbbd24cd7a5e"), looks := false }, kinds := [], alts := [], laidByText := true, laidKinds := [.data, .pinned], laidTests := true, laidLooks := .later }
def BucketLeastCardSaid : Prop := Claim7.holds Tryd.pinned (.plain (OpenSpec.ofChange bucketLeastSpec)) bucketLeastCard

/-- THE TIED CARD OF 'fardellaw17.BucketSame'. -/
def bucketSameCard : Claim7 := { stood := { row := bucketSameRow, standIns := [], harness := (true, "e700fd710cd6f9c2f2e1a29536a9224054649ec2fbf0b6cfc9f6fbbd24cd7a5e"), looks := false }, kinds := [], alts := [], laidByText := true, laidKinds := [.data, .pinned], laidTests := true, laidLooks := .later }
def BucketSameCardSaid : Prop := Claim7.holds Tryd.pinned (.plain (OpenSpec.ofChange bucketSameSpec)) bucketSameCard

/-- THE TIED CARD OF 'fardellaw17.BucketNext'. -/
def bucketNextCard : Claim7 := { stood := { row := bucketNextRow, standIns := [], harness := (true, "e700fd710cd6f9c2f2e1a29536a9224054649ec2fbf0b6cfc9f6fbbd24cd7a5e"), looks := false }, kinds := [], alts := [], laidByText := true, laidKinds := [.data, .pinned], laidTests := true, laidLooks := .later }
def BucketNextCardSaid : Prop := Claim7.holds Tryd.pinned (.plain (OpenSpec.ofChange bucketNextSpec)) bucketNextCard

/-- THE TIED CARD OF 'fardellaw17.BucketZeros'. -/
def bucketZerosCard : Claim7 := { stood := { row := bucketZerosRow, standIns := [], harness := (true, "e700fd710cd6f9c2f2e1a29536a9224054649ec2fbf0b6cfc9f6fbbd24cd7a5e"), looks := false }, kinds := [], alts := [], laidByText := true, laidKinds := [.data, .pinned], laidTests := true, laidLooks := .later }
def BucketZerosCardSaid : Prop := Claim7.holds Tryd.pinned (.plain (OpenSpec.ofChange bucketZerosSpec)) bucketZerosCard

/-- THE SECOND FORM's CARD OF 'fardellaw17.BucketNames'. -/
def bucketNamesUptoCard : Claim7 := { stood := { row := bucketNamesUptoRow, standIns := [], harness := (true, "e700fd710cd6f9c2f2e1a29536a9224054649ec2fbf0b6cfc9f6fbbd24cd7a5e"), looks := false }, kinds := [], alts := [], laidByText := true, laidKinds := [.data, .pinned], laidTests := true, laidLooks := .later }
def BucketNamesUptoCardSaid : Prop := Claim7.holds Tryd.pinned (.plain (OpenSpec.upto bucketNamesSpec)) bucketNamesUptoCard

/-- THE SECOND FORM's CARD OF 'fardellaw17.BucketTells'. -/
def bucketTellsUptoCard : Claim7 := { stood := { row := bucketTellsUptoRow, standIns := [], harness := (true, "e700fd710cd6f9c2f2e1a29536a9224054649ec2fbf0b6cfc9f6fbbd24cd7a5e"), looks := false }, kinds := [], alts := [], laidByText := true, laidKinds := [.data, .pinned], laidTests := true, laidLooks := .later }
def BucketTellsUptoCardSaid : Prop := Claim7.holds Tryd.pinned (.plain (OpenSpec.upto bucketTellsSpec)) bucketTellsUptoCard

/-- THE SECOND FORM's CARD OF 'fardellaw17.BucketBack'. -/
def bucketBackUptoCard : Claim7 := { stood := { row := bucketBackUptoRow, standIns := [], harness := (true, "e700fd710cd6f9c2f2e1a29536a9224054649ec2fbf0b6cfc9f6fbbd24cd7a5e"), looks := false }, kinds := [], alts := [], laidByText := true, laidKinds := [.data, .pinned], laidTests := true, laidLooks := .later }
def BucketBackUptoCardSaid : Prop := Claim7.holds Tryd.pinned (.plain (OpenSpec.upto bucketBackSpec)) bucketBackUptoCard

/-- THE SECOND FORM's CARD OF 'fardellaw17.BucketLeast'. -/
def bucketLeastUptoCard : Claim7 := { stood := { row := bucketLeastUptoRow, standIns := [], harness := (true, "e700fd710cd6f9c2f2e1a29536a9224054649ec2fbf0b6cfc9f6fbbd24cd7a5e"), looks := false }, kinds := [], alts := [], laidByText := true, laidKinds := [.data, .pinned], laidTests := true, laidLooks := .later }
def BucketLeastUptoCardSaid : Prop := Claim7.holds Tryd.pinned (.plain (OpenSpec.upto bucketLeastSpec)) bucketLeastUptoCard

/-- THE SECOND FORM's CARD OF 'fardellaw17.BucketSame'. -/
def bucketSameUptoCard : Claim7 := { stood := { row := bucketSameUptoRow, standIns := [], harness := (true, "e700fd710cd6f9c2f2e1a29536a9224054649ec2fbf0b6cfc9f6fbbd24cd7a5e"), looks := false }, kinds := [], alts := [], laidByText := true, laidKinds := [.data, .pinned], laidTests := true, laidLooks := .later }
def BucketSameUptoCardSaid : Prop := Claim7.holds Tryd.pinned (.plain (OpenSpec.upto bucketSameSpec)) bucketSameUptoCard

/-- THE SECOND FORM's CARD OF 'fardellaw17.BucketNext'. -/
def bucketNextUptoCard : Claim7 := { stood := { row := bucketNextUptoRow, standIns := [], harness := (true, "e700fd710cd6f9c2f2e1a29536a9224054649ec2fbf0b6cfc9f6fbbd24cd7a5e"), looks := false }, kinds := [], alts := [], laidByText := true, laidKinds := [.data, .pinned], laidTests := true, laidLooks := .later }
def BucketNextUptoCardSaid : Prop := Claim7.holds Tryd.pinned (.plain (OpenSpec.upto bucketNextSpec)) bucketNextUptoCard

/-- THE SECOND FORM's CARD OF 'fardellaw17.BucketZeros'. -/
def bucketZerosUptoCard : Claim7 := { stood := { row := bucketZerosUptoRow, standIns := [], harness := (true, "e700fd710cd6f9c2f2e1a29536a9224054649ec2fbf0b6cfc9f6fbbd24cd7a5e"), looks := false }, kinds := [], alts := [], laidByText := true, laidKinds := [.data, .pinned], laidTests := true, laidLooks := .later }
def BucketZerosUptoCardSaid : Prop := Claim7.holds Tryd.pinned (.plain (OpenSpec.upto bucketZerosSpec)) bucketZerosUptoCard
end Rows
end Go.Proofs.YtobepippjhmeaaaDoor
