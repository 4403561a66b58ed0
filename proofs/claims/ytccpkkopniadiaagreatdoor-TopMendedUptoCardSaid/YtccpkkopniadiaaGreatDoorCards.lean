/-
  DERIVED. GIVEN WITH THE SEED: THE CARDS: each row of YtccpkkopniadiaaGreatDoorRows.lean that lists a variable, with what it lists TIED to the program's text (the seventh form; the later family's looks); each row that meets fmt, with fmt's text TOLD by the authors' own Lean function (tested against real Go, not proved from fmt's source: count such statements apart). THE CARD IS WHAT COUNTS. Prove the row's statement (the work); the ties are given (YtccpkkopniadiaaGreatDoorTie.lean); close each card by the builder's one call (the guide's Derived/Test/ToyasCard.lean, 'card_holds'). Laid BY PROGRAM, IN A SANDBOX (cutbox-door.mjs). By AI agents, Wed Nov 11 2026. No macro, syntax, notation, axiom, sorry.
-/
import Derived.Test.YtccpkkopniadiaaGreatDoorRows
import GoSem.ClaimSeven
namespace Go.Proofs.YtccpkkopniadiaaGreatDoor
namespace Rows

/-- THE TIED CARD OF 'flintstorelaw.BenchTells'. -/
def benchTellsCard : Claim7 := { stood := { row := benchTellsRow, standIns := [], harness := (true, "d73f0abaed87ead8adc0406a65d3d6877a735be28bf71099a167506d21d18e60"), looks := true }, kinds := [], alts := [], laidByText := true, laidKinds := [.data, .data, .data, .data, .sentinel, .sentinel, .sentinel, .pinned], laidTests := true, laidLooks := .later }
def BenchTellsCardSaid : Prop := Claim7.holds Tryz.pinned (.plain (OpenSpec.ofChange benchTellsSpec)) benchTellsCard

/-- THE TIED CARD OF 'flintstoretop.TopText'. -/
def topTextCard : Claim7 := { stood := { row := topTextRow, standIns := [], harness := (true, "d73f0abaed87ead8adc0406a65d3d6877a735be28bf71099a167506d21d18e60"), looks := true }, kinds := [], alts := [], laidByText := true, laidKinds := [.data, .data, .data, .data, .sentinel, .sentinel, .sentinel, .pinned], laidTests := true, laidLooks := .later }
def TopTextCardSaid : Prop := Claim7.holds Tryz.pinned (.plain (OpenSpec.ofChange topTextSpec)) topTextCard

/-- THE TIED CARD OF 'flintstoretop.TopMended'. -/
def topMendedCard : Claim7 := { stood := { row := topMendedRow, standIns := [], harness := (true, "d73f0abaed87ead8adc0406a65d3d6877a735be28bf71099a167506d21d18e60"), looks := true }, kinds := [], alts := [], laidByText := true, laidKinds := [.data, .data, .data, .data, .sentinel, .sentinel, .sentinel, .pinned], laidTests := true, laidLooks := .later }
def TopMendedCardSaid : Prop := Claim7.holds Tryz.pinned (.plain (OpenSpec.ofChange topMendedSpec)) topMendedCard

/-- THE SECOND FORM's CARD OF 'flintstorelaw.BenchTells'. -/
def benchTellsUptoCard : Claim7 := { stood := { row := benchTellsUptoRow, standIns := [], harness := (true, "d73f0abaed87ead8adc0406a65d3d6877a735be28bf71099a167506d21d18e60"), looks := true }, kinds := [], alts := [], laidByText := true, laidKinds := [.data, .data, .data, .data, .sentinel, .sentinel, .sentinel, .pinned], laidTests := true, laidLooks := .later }
def BenchTellsUptoCardSaid : Prop := Claim7.holds Tryz.pinned (.plain (OpenSpec.upto benchTellsSpec)) benchTellsUptoCard

/-- THE SECOND FORM's CARD OF 'flintstoretop.TopText'. -/
def topTextUptoCard : Claim7 := { stood := { row := topTextUptoRow, standIns := [], harness := (true, "d73f0abaed87ead8adc0406a65d3d6877a735be28bf71099a167506d21d18e60"), looks := true }, kinds := [], alts := [], laidByText := true, laidKinds := [.data, .data, .data, .data, .sentinel, .sentinel, .sentinel, .pinned], laidTests := true, laidLooks := .later }
def TopTextUptoCardSaid : Prop := Claim7.holds Tryz.pinned (.plain (OpenSpec.upto topTextSpec)) topTextUptoCard

/-- THE SECOND FORM's CARD OF 'flintstoretop.TopMended'. -/
def topMendedUptoCard : Claim7 := { stood := { row := topMendedUptoRow, standIns := [], harness := (true, "d73f0abaed87ead8adc0406a65d3d6877a735be28bf71099a167506d21d18e60"), looks := true }, kinds := [], alts := [], laidByText := true, laidKinds := [.data, .data, .data, .data, .sentinel, .sentinel, .sentinel, .pinned], laidTests := true, laidLooks := .later }
def TopMendedUptoCardSaid : Prop := Claim7.holds Tryz.pinned (.plain (OpenSpec.upto topMendedSpec)) topMendedUptoCard
end Rows
end Go.Proofs.YtccpkkopniadiaaGreatDoor
