/-
  No cell of these rows narrows 'for every input' (looked for: loops, veiled, ifaces, maps, wideKeys, modest, calm, conditions, laid).
  DERIVED. THE GIVEN ROWS OF THIS SEAT. 6 by the template 'for every input the law returns true; each argument reads behind the call as it read before'; 0 by the template 'total and deterministic' (their statements: YtakmfjnfkjdbfabTotals.lean).
  GIVEN WITH THE SEED: the statements are not yours to turn. If you find one false, say at which input.
  Laid BY PROGRAM, IN A SANDBOX (cutbox-rows.mjs): the forced cells as the released guide's own fill.sh prints them over the translation 1aa37eaa589fa5f3… (all of the seat's roots in one cut). By AI agents, Wed Nov 11 2026. No macro, syntax, notation, axiom, sorry.
-/
import Derived.Test.YtakmfjnfkjdbfabChecked
import GoSem.Claim
import GoSem.ClaimJoined
import GoSem.ClaimMapViews
import Derived.JoinedTies
import Derived.KernelRfl
namespace Go.Proofs.Ytakmfjnfkjdbfab
/- THE CELL 'sum', in the pinned program and in every row, IS THE sha256 OF THE DUMP (.gsa) THAT YtakmfjnfkjdbfabProg.lean LOADS. Nothing in Lean hashes anything: it is a label: what it is worth is what the hold of that sum in a sandbox is worth. -/
noncomputable def Try.pinned : Pinned := { name := "ytakmfjnfkjdbfab", sum := "1aa37eaa589fa5f3eac344f288c0b63d6451cee503bf25835e1d8f843430fd71", checked := Try.checked }
namespace Rows
def none {H : Type} : Left H := { results := [], args := [] }

/-- 'flintstorelaw.FtlPlays': WHATEVER THE INPUT: true; the input reads as it did. -/
def ftlPlaysSpec : ChangeSpec := { name := "ftlPlays", fn := fun _ => fun
  | [d] => { results := [.lit (.bool true)], args := [d] }
  | _ => none }
def ftlPlaysRow : OpenClaim := { program := "ytakmfjnfkjdbfab", sum := "1aa37eaa589fa5f3eac344f288c0b63d6451cee503bf25835e1d8f843430fd71", func := "flintstore/flintstorelaw.FtlPlays", spec := "ftlPlays", plainKeys := false, apart := false }
def FtlPlaysSaid : Prop := ftlPlaysRow.holds Try.pinned (OpenSpec.ofChange ftlPlaysSpec)

/-- ITS FALSE NEIGHBOUR: 'it returns false'. Refute it at one input. -/
def ftlPlaysWrong : ChangeSpec := { name := "ftlPlays", fn := fun _ => fun
  | [d] => { results := [.lit (.bool false)], args := [d] }
  | _ => none }
def FtlPlaysWrongFalsely : Prop := ftlPlaysRow.holds Try.pinned (OpenSpec.ofChange ftlPlaysWrong)

/-- 'flintstorelaw.CellWrites': WHATEVER THE INPUT: true; the input reads as it did. -/
def cellWritesSpec : ChangeSpec := { name := "cellWrites", fn := fun _ => fun
  | [d1, d2, d3] => { results := [.lit (.bool true)], args := [d1, d2, d3] }
  | _ => none }
def cellWritesRow : OpenClaim := { program := "ytakmfjnfkjdbfab", sum := "1aa37eaa589fa5f3eac344f288c0b63d6451cee503bf25835e1d8f843430fd71", func := "flintstore/flintstorelaw.CellWrites", spec := "cellWrites", inPlace := ["internal/bytealg.MakeNoZero"], plainKeys := false, apart := false }
def CellWritesSaid : Prop := cellWritesRow.holds Try.pinned (OpenSpec.ofChange cellWritesSpec)

/-- ITS FALSE NEIGHBOUR: 'it returns false'. Refute it at one input. -/
def cellWritesWrong : ChangeSpec := { name := "cellWrites", fn := fun _ => fun
  | [d1, d2, d3] => { results := [.lit (.bool false)], args := [d1, d2, d3] }
  | _ => none }
def CellWritesWrongFalsely : Prop := cellWritesRow.holds Try.pinned (OpenSpec.ofChange cellWritesWrong)

/-- 'flintstorelaw.FsckRepairs': WHATEVER THE INPUT: true; the input reads as it did. -/
def fsckRepairsSpec : ChangeSpec := { name := "fsckRepairs", fn := fun _ => fun
  | [d1, d2, d3] => { results := [.lit (.bool true)], args := [d1, d2, d3] }
  | _ => none }
def fsckRepairsRow : OpenClaim := { program := "ytakmfjnfkjdbfab", sum := "1aa37eaa589fa5f3eac344f288c0b63d6451cee503bf25835e1d8f843430fd71", func := "flintstore/flintstorelaw.FsckRepairs", spec := "fsckRepairs", unfollowed := true, recurses := true, plainKeys := false, apart := false }
def FsckRepairsSaid : Prop := fsckRepairsRow.holds Try.pinned (OpenSpec.ofChange fsckRepairsSpec)

/-- ITS FALSE NEIGHBOUR: 'it returns false'. Refute it at one input. -/
def fsckRepairsWrong : ChangeSpec := { name := "fsckRepairs", fn := fun _ => fun
  | [d1, d2, d3] => { results := [.lit (.bool false)], args := [d1, d2, d3] }
  | _ => none }
def FsckRepairsWrongFalsely : Prop := fsckRepairsRow.holds Try.pinned (OpenSpec.ofChange fsckRepairsWrong)

/-- 'flintstorelaw.FsckTells': WHATEVER THE INPUT: true; the input reads as it did. -/
def fsckTellsSpec : ChangeSpec := { name := "fsckTells", fn := fun _ => fun
  | [d1, d2, d3] => { results := [.lit (.bool true)], args := [d1, d2, d3] }
  | _ => none }
def fsckTellsRow : OpenClaim := { program := "ytakmfjnfkjdbfab", sum := "1aa37eaa589fa5f3eac344f288c0b63d6451cee503bf25835e1d8f843430fd71", func := "flintstore/flintstorelaw.FsckTells", spec := "fsckTells", unfollowed := true, recurses := true, plainKeys := false, apart := false }
def FsckTellsSaid : Prop := fsckTellsRow.holds Try.pinned (OpenSpec.ofChange fsckTellsSpec)

/-- ITS FALSE NEIGHBOUR: 'it returns false'. Refute it at one input. -/
def fsckTellsWrong : ChangeSpec := { name := "fsckTells", fn := fun _ => fun
  | [d1, d2, d3] => { results := [.lit (.bool false)], args := [d1, d2, d3] }
  | _ => none }
def FsckTellsWrongFalsely : Prop := fsckTellsRow.holds Try.pinned (OpenSpec.ofChange fsckTellsWrong)

/-- 'flintstorelaw.BadTells': WHATEVER THE INPUT: true; the input reads as it did. -/
def badTellsSpec : ChangeSpec := { name := "badTells", fn := fun _ => fun
  | [d1, d2, d3] => { results := [.lit (.bool true)], args := [d1, d2, d3] }
  | _ => none }
def badTellsRow : OpenClaim := { program := "ytakmfjnfkjdbfab", sum := "1aa37eaa589fa5f3eac344f288c0b63d6451cee503bf25835e1d8f843430fd71", func := "flintstore/flintstorelaw.BadTells", spec := "badTells", inPlace := ["slices.overlaps[int]"], recurses := true, plainKeys := false, apart := false }
def BadTellsSaid : Prop := badTellsRow.holds Try.pinned (OpenSpec.ofChange badTellsSpec)

/-- ITS FALSE NEIGHBOUR: 'it returns false'. Refute it at one input. -/
def badTellsWrong : ChangeSpec := { name := "badTells", fn := fun _ => fun
  | [d1, d2, d3] => { results := [.lit (.bool false)], args := [d1, d2, d3] }
  | _ => none }
def BadTellsWrongFalsely : Prop := badTellsRow.holds Try.pinned (OpenSpec.ofChange badTellsWrong)

/-- 'flintstorelaw.HeapMakes': WHATEVER THE INPUT: true; the input reads as it did. -/
def heapMakesSpec : ChangeSpec := { name := "heapMakes", fn := fun _ => fun
  | [d] => { results := [.lit (.bool true)], args := [d] }
  | _ => none }
def heapMakesRow : OpenClaim := { program := "ytakmfjnfkjdbfab", sum := "1aa37eaa589fa5f3eac344f288c0b63d6451cee503bf25835e1d8f843430fd71", func := "flintstore/flintstorelaw.HeapMakes", spec := "heapMakes", unfollowed := true, recurses := true, plainKeys := false, apart := false }
def HeapMakesSaid : Prop := heapMakesRow.holds Try.pinned (OpenSpec.ofChange heapMakesSpec)

/-- ITS FALSE NEIGHBOUR: 'it returns false'. Refute it at one input. -/
def heapMakesWrong : ChangeSpec := { name := "heapMakes", fn := fun _ => fun
  | [d] => { results := [.lit (.bool false)], args := [d] }
  | _ => none }
def HeapMakesWrongFalsely : Prop := heapMakesRow.holds Try.pinned (OpenSpec.ofChange heapMakesWrong)

/- THE SECOND FORM. 'bulk': how many values and letters a reading holds, each counted each time it is reached (what is shared counts as often as it is met; a slice's spare places count too). A statement '..UptoSaid' is the law's where the arguments, and the package variables that the reading takes, are together of bulk at most 1048576: NARROWER than '..Said'. Prove '..Said' where nothing that the law and all that it calls make is longer than what came in: it says more and counts as full. Else prove '..UptoSaid'. A law counts once. -/
mutual
def uptoBulk {H : Type} : DataW H → Nat
  | .lit (.string bytes) => bytes.length + 1
  | .lit _ => 1
  | .nil => 1
  | .ptr d => uptoBulk d + 1
  | .slice elems spare => uptoBulkAll elems + uptoBulkAll spare + 1
  | .agg parts => uptoBulkAll parts + 1
  | .iface _ d => uptoBulk d + 1
  | .map entries => uptoBulkEntries entries + 1
  | .held _ => 1
def uptoBulkAll {H : Type} : List (DataW H) → Nat
  | [] => 0
  | d :: r => uptoBulk d + uptoBulkAll r
def uptoBulkEntries {H : Type} : List (Lit × DataW H) → Nat
  | [] => 0
  | x :: r => uptoBulkEntry x + uptoBulkEntries r
def uptoBulkEntry {H : Type} : Lit × DataW H → Nat
  | (.string bytes, d) => bytes.length + uptoBulk d + 1
  | (_, d) => uptoBulk d + 1
 end
def uptoSmall : (H : Type) → List (DataW H) → Bool := fun _ ds => decide (uptoBulkAll ds ≤ 1048576)
def OpenSpec.upto (s : _root_.Go.ChangeSpec) : _root_.Go.OpenSpec := { _root_.Go.OpenSpec.ofChange s with cond := some uptoSmall }

/-- 'flintstorelaw.FtlPlays', WHERE WHAT IT READS IS OF BULK AT MOST 1048576: true; the input reads as it did. -/
def ftlPlaysUptoRow : OpenClaim := { program := "ytakmfjnfkjdbfab", sum := "1aa37eaa589fa5f3eac344f288c0b63d6451cee503bf25835e1d8f843430fd71", func := "flintstore/flintstorelaw.FtlPlays", spec := "ftlPlays", plainKeys := false, apart := false, narrowed := true }
def FtlPlaysUptoSaid : Prop := ftlPlaysUptoRow.holds Try.pinned (OpenSpec.upto ftlPlaysSpec)

/-- 'flintstorelaw.CellWrites', WHERE WHAT IT READS IS OF BULK AT MOST 1048576: true; the input reads as it did. -/
def cellWritesUptoRow : OpenClaim := { program := "ytakmfjnfkjdbfab", sum := "1aa37eaa589fa5f3eac344f288c0b63d6451cee503bf25835e1d8f843430fd71", func := "flintstore/flintstorelaw.CellWrites", spec := "cellWrites", inPlace := ["internal/bytealg.MakeNoZero"], plainKeys := false, apart := false, narrowed := true }
def CellWritesUptoSaid : Prop := cellWritesUptoRow.holds Try.pinned (OpenSpec.upto cellWritesSpec)

/-- 'flintstorelaw.FsckRepairs', WHERE WHAT IT READS IS OF BULK AT MOST 1048576: true; the input reads as it did. -/
def fsckRepairsUptoRow : OpenClaim := { program := "ytakmfjnfkjdbfab", sum := "1aa37eaa589fa5f3eac344f288c0b63d6451cee503bf25835e1d8f843430fd71", func := "flintstore/flintstorelaw.FsckRepairs", spec := "fsckRepairs", unfollowed := true, recurses := true, plainKeys := false, apart := false, narrowed := true }
def FsckRepairsUptoSaid : Prop := fsckRepairsUptoRow.holds Try.pinned (OpenSpec.upto fsckRepairsSpec)

/-- 'flintstorelaw.FsckTells', WHERE WHAT IT READS IS OF BULK AT MOST 1048576: true; the input reads as it did. -/
def fsckTellsUptoRow : OpenClaim := { program := "ytakmfjnfkjdbfab", sum := "1aa37eaa589fa5f3eac344f288c0b63d6451cee503bf25835e1d8f843430fd71", func := "flintstore/flintstorelaw.FsckTells", spec := "fsckTells", unfollowed := true, recurses := true, plainKeys := false, apart := false, narrowed := true }
def FsckTellsUptoSaid : Prop := fsckTellsUptoRow.holds Try.pinned (OpenSpec.upto fsckTellsSpec)

/-- 'flintstorelaw.BadTells', WHERE WHAT IT READS IS OF BULK AT MOST 1048576: true; the input reads as it did. -/
def badTellsUptoRow : OpenClaim := { program := "ytakmfjnfkjdbfab", sum := "1aa37eaa589fa5f3eac344f288c0b63d6451cee503bf25835e1d8f843430fd71", func := "flintstore/flintstorelaw.BadTells", spec := "badTells", inPlace := ["slices.overlaps[int]"], recurses := true, plainKeys := false, apart := false, narrowed := true }
def BadTellsUptoSaid : Prop := badTellsUptoRow.holds Try.pinned (OpenSpec.upto badTellsSpec)

/-- 'flintstorelaw.HeapMakes', WHERE WHAT IT READS IS OF BULK AT MOST 1048576: true; the input reads as it did. -/
def heapMakesUptoRow : OpenClaim := { program := "ytakmfjnfkjdbfab", sum := "1aa37eaa589fa5f3eac344f288c0b63d6451cee503bf25835e1d8f843430fd71", func := "flintstore/flintstorelaw.HeapMakes", spec := "heapMakes", unfollowed := true, recurses := true, plainKeys := false, apart := false, narrowed := true }
def HeapMakesUptoSaid : Prop := heapMakesUptoRow.holds Try.pinned (OpenSpec.upto heapMakesSpec)

end Rows
end Go.Proofs.Ytakmfjnfkjdbfab
