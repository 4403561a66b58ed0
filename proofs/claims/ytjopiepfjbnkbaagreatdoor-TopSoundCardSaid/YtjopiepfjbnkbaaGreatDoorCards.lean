/-
  DERIVED. GIVEN WITH THE SEED: THE CARDS: each row of YtjopiepfjbnkbaaGreatDoorRows.lean that lists a variable, with what it lists TIED to the program's text (the seventh form; the later family's looks); each row that meets fmt, with fmt's text TOLD by the authors' own Lean function (tested against real Go, not proved from fmt's source: count such statements apart). THE CARD IS WHAT COUNTS. Prove the row's statement (the work); the ties are given (YtjopiepfjbnkbaaGreatDoorTie.lean); close each card by the builder's one call (the guide's Derived/Test/ToyasCard.lean, 'card_holds'). Laid BY PROGRAM, IN A SANDBOX (cutbox-door.mjs). By AI agents, Wed Nov 11 2026. No macro, syntax, notation, axiom, sorry.
-/
import Derived.Test.YtjopiepfjbnkbaaGreatDoorRows
import GoSem.ClaimSeven
namespace Go.Proofs.YtjopiepfjbnkbaaGreatDoor
namespace Rows

/-- THE TIED CARD OF 'flintstoretop.TopCached'. -/
def topCachedCard : Claim7 := { stood := { row := topCachedRow, standIns := [], harness := (true, "3a52f1209054cac6a03ddc89697e4349a57ddd1c405474dad0d7e2e43834536e"), looks := true }, kinds := [], alts := [], laidByText := true, laidKinds := [.data, .data, .data, .data, .sentinel, .sentinel, .sentinel, .pinned], laidTests := true, laidLooks := .later }
def TopCachedCardSaid : Prop := Claim7.holds Tryz.pinned (.plain (OpenSpec.ofChange topCachedSpec)) topCachedCard

/-- THE TIED CARD OF 'flintstoretop.TopSound'. -/
def topSoundCard : Claim7 := { stood := { row := topSoundRow, standIns := [], harness := (true, "3a52f1209054cac6a03ddc89697e4349a57ddd1c405474dad0d7e2e43834536e"), looks := true }, kinds := [], alts := [], laidByText := true, laidKinds := [.data, .data, .data, .data, .sentinel, .sentinel, .sentinel, .pinned], laidTests := true, laidLooks := .later }
def TopSoundCardSaid : Prop := Claim7.holds Tryz.pinned (.plain (OpenSpec.ofChange topSoundSpec)) topSoundCard

/-- THE SECOND FORM's CARD OF 'flintstoretop.TopCached'. -/
def topCachedUptoCard : Claim7 := { stood := { row := topCachedUptoRow, standIns := [], harness := (true, "3a52f1209054cac6a03ddc89697e4349a57ddd1c405474dad0d7e2e43834536e"), looks := true }, kinds := [], alts := [], laidByText := true, laidKinds := [.data, .data, .data, .data, .sentinel, .sentinel, .sentinel, .pinned], laidTests := true, laidLooks := .later }
def TopCachedUptoCardSaid : Prop := Claim7.holds Tryz.pinned (.plain (OpenSpec.upto topCachedSpec)) topCachedUptoCard

/-- THE SECOND FORM's CARD OF 'flintstoretop.TopSound'. -/
def topSoundUptoCard : Claim7 := { stood := { row := topSoundUptoRow, standIns := [], harness := (true, "3a52f1209054cac6a03ddc89697e4349a57ddd1c405474dad0d7e2e43834536e"), looks := true }, kinds := [], alts := [], laidByText := true, laidKinds := [.data, .data, .data, .data, .sentinel, .sentinel, .sentinel, .pinned], laidTests := true, laidLooks := .later }
def TopSoundUptoCardSaid : Prop := Claim7.holds Tryz.pinned (.plain (OpenSpec.upto topSoundSpec)) topSoundUptoCard
end Rows
end Go.Proofs.YtjopiepfjbnkbaaGreatDoor
