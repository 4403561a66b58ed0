/-
  DERIVED. GIVEN WITH THE SEED: THE CARDS: each row of YtgfldhdmdeeknaaGreatDoorRows.lean that lists a variable, with what it lists TIED to the program's text (the seventh form; the later family's looks); each row that meets fmt, with fmt's text TOLD by the authors' own Lean function (tested against real Go, not proved from fmt's source: count such statements apart). THE CARD IS WHAT COUNTS. Prove the row's statement (the work); the ties are given (YtgfldhdmdeeknaaGreatDoorTie.lean); close each card by the builder's one call (the guide's Derived/Test/ToyasCard.lean, 'card_holds'). Laid BY PROGRAM, IN A SANDBOX (cutbox-door.mjs). By AI agents, Wed Nov 11 2026. No macro, syntax, notation, axiom, sorry.
-/
import Derived.Test.YtgfldhdmdeeknaaGreatDoorRows
import GoSem.ClaimSeven
namespace Go.Proofs.YtgfldhdmdeeknaaGreatDoor
namespace Rows

/-- THE TIED CARD OF 'flintstoretop.TopMended'. -/
def topMendedCard : Claim7 := { stood := { row := topMendedRow, standIns := [], harness := (true, "c8a2a28d58999638e1afe58e8b84467674de1de30dab9fa398478c1b2eae4544"), looks := true }, kinds := [], alts := [], laidByText := true, laidKinds := [.data, .data, .data, .data, .sentinel, .sentinel, .sentinel, .pinned], laidTests := true, laidLooks := .later }
def TopMendedCardSaid : Prop := Claim7.holds Tryz.pinned (.plain (OpenSpec.ofChange topMendedSpec)) topMendedCard

/-- THE SECOND FORM's CARD OF 'flintstoretop.TopMended'. -/
def topMendedUptoCard : Claim7 := { stood := { row := topMendedUptoRow, standIns := [], harness := (true, "c8a2a28d58999638e1afe58e8b84467674de1de30dab9fa398478c1b2eae4544"), looks := true }, kinds := [], alts := [], laidByText := true, laidKinds := [.data, .data, .data, .data, .sentinel, .sentinel, .sentinel, .pinned], laidTests := true, laidLooks := .later }
def TopMendedUptoCardSaid : Prop := Claim7.holds Tryz.pinned (.plain (OpenSpec.upto topMendedSpec)) topMendedUptoCard
end Rows
end Go.Proofs.YtgfldhdmdeeknaaGreatDoor
