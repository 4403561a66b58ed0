/-
  DERIVED. GIVEN WITH THE SEED: THE CARDS: each row of YtelgalhkggnkbaaDoorRows.lean that lists a variable, with what it lists TIED to the program's text (the seventh form; the later family's looks); each row that meets fmt, with fmt's text TOLD by the authors' own Lean function (tested against real Go, not proved from fmt's source: count such statements apart). THE CARD IS WHAT COUNTS. Prove the row's statement (the work); the ties are given (YtelgalhkggnkbaaDoorTie.lean); close each card by the builder's one call (the guide's Derived/Test/ToyasCard.lean, 'card_holds'). Laid BY PROGRAM, IN A SANDBOX (cutbox-door.mjs). By AI agents, Wed Nov 11 2026. No macro, syntax, notation, axiom, sorry.
-/
import Derived.Test.YtelgalhkggnkbaaDoorRows
import GoSem.ClaimSeven
namespace Go.Proofs.YtelgalhkggnkbaaDoor
namespace Rows

/-- THE TIED CARD OF 'flintstorelaw.PathMeets'. -/
def pathMeetsCard : Claim7 := { stood := { row := pathMeetsRow, standIns := [], harness := (true, "b82337e2c7c7549a00105970643545dab8046ebc7012cb9f3643f28eace61b11"), looks := false }, kinds := [], alts := [], laidByText := true, laidKinds := [.data, .pinned], laidTests := true, laidLooks := .later }
def PathMeetsCardSaid : Prop := Claim7.holds Tryd.pinned (.plain (OpenSpec.ofChange pathMeetsSpec)) pathMeetsCard

/-- THE TIED CARD OF 'flintstorelaw.PathGoes'. -/
def pathGoesCard : Claim7 := { stood := { row := pathGoesRow, standIns := [], harness := (true, "b82337e2c7c7549a00105970643545dab8046ebc7012cb9f3643f28eace61b11"), looks := false }, kinds := [], alts := [], laidByText := true, laidKinds := [.data, .pinned], laidTests := true, laidLooks := .later }
def PathGoesCardSaid : Prop := Claim7.holds Tryd.pinned (.plain (OpenSpec.ofChange pathGoesSpec)) pathGoesCard

/-- THE SECOND FORM's CARD OF 'flintstorelaw.PathMeets'. -/
def pathMeetsUptoCard : Claim7 := { stood := { row := pathMeetsUptoRow, standIns := [], harness := (true, "b82337e2c7c7549a00105970643545dab8046ebc7012cb9f3643f28eace61b11"), looks := false }, kinds := [], alts := [], laidByText := true, laidKinds := [.data, .pinned], laidTests := true, laidLooks := .later }
def PathMeetsUptoCardSaid : Prop := Claim7.holds Tryd.pinned (.plain (OpenSpec.upto pathMeetsSpec)) pathMeetsUptoCard

/-- THE SECOND FORM's CARD OF 'flintstorelaw.PathGoes'. -/
def pathGoesUptoCard : Claim7 := { stood := { row := pathGoesUptoRow, standIns := [], harness := (true, "b82337e2c7c7549a00105970643545dab8046ebc7012cb9f3643f28eace61b11"), looks := false }, kinds := [], alts := [], laidByText := true, laidKinds := [.data, .pinned], laidTests := true, laidLooks := .later }
def PathGoesUptoCardSaid : Prop := Claim7.holds Tryd.pinned (.plain (OpenSpec.upto pathGoesSpec)) pathGoesUptoCard
end Rows
end Go.Proofs.YtelgalhkggnkbaaDoor
