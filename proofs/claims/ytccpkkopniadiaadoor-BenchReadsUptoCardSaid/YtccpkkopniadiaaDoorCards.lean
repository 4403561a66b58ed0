/-
  DERIVED. GIVEN WITH THE SEED: THE CARDS: each row of YtccpkkopniadiaaDoorRows.lean that lists a variable, with what it lists TIED to the program's text (the seventh form; the later family's looks); each row that meets fmt, with fmt's text TOLD by the authors' own Lean function (tested against real Go, not proved from fmt's source: count such statements apart). THE CARD IS WHAT COUNTS. Prove the row's statement (the work); the ties are given (YtccpkkopniadiaaDoorTie.lean); close each card by the builder's one call (the guide's Derived/Test/ToyasCard.lean, 'card_holds'). Laid BY PROGRAM, IN A SANDBOX (cutbox-door.mjs). By AI agents, Wed Nov 11 2026. No macro, syntax, notation, axiom, sorry.
-/
import Derived.Test.YtccpkkopniadiaaDoorRows
import GoSem.ClaimSeven
namespace Go.Proofs.YtccpkkopniadiaaDoor
namespace Rows

/-- THE TIED CARD OF 'flintstorelaw.BenchReads'. -/
def benchReadsCard : Claim7 := { stood := { row := benchReadsRow, standIns := [], harness := (true, "6673abf48efad140ccc0800eee1ebe39ae559c193ddb2a2f93eee1d2b3ae00ed"), looks := true }, kinds := [], alts := [], laidByText := true, laidKinds := [.data, .data, .data, .data, .sentinel, .sentinel, .sentinel, .pinned], laidTests := true, laidLooks := .later }
def BenchReadsCardSaid : Prop := Claim7.holds Tryd.pinned (.plain (OpenSpec.ofChange benchReadsSpec)) benchReadsCard

/-- THE SECOND FORM's CARD OF 'flintstorelaw.BenchReads'. -/
def benchReadsUptoCard : Claim7 := { stood := { row := benchReadsUptoRow, standIns := [], harness := (true, "6673abf48efad140ccc0800eee1ebe39ae559c193ddb2a2f93eee1d2b3ae00ed"), looks := true }, kinds := [], alts := [], laidByText := true, laidKinds := [.data, .data, .data, .data, .sentinel, .sentinel, .sentinel, .pinned], laidTests := true, laidLooks := .later }
def BenchReadsUptoCardSaid : Prop := Claim7.holds Tryd.pinned (.plain (OpenSpec.upto benchReadsSpec)) benchReadsUptoCard
end Rows
end Go.Proofs.YtccpkkopniadiaaDoor
