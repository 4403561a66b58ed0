/-
  No cell of these rows narrows 'for every input' (looked for: loops, veiled, ifaces, maps, wideKeys, modest, calm, conditions, laid).
  DERIVED. THE GIVEN ROWS OF THIS SEAT. 4 by the template 'for every input the law returns true; each argument reads behind the call as it read before'; 0 by the template 'total and deterministic' (their statements: YtfljbiobiobamabTotals.lean).
  GIVEN WITH THE SEED: the statements are not yours to turn. If you find one false, say at which input.
  Laid BY PROGRAM, IN A SANDBOX (cutbox-rows.mjs): the forced cells as the released guide's own fill.sh prints them over the translation 040ff07d01de95ef… (all of the seat's roots in one cut). By AI agents, Wed Nov 11 2026. No macro, syntax, notation, axiom, sorry.
-/
import Derived.Test.YtfljbiobiobamabChecked
import GoSem.Claim
import GoSem.ClaimJoined
import GoSem.ClaimMapViews
import Derived.JoinedTies
import Derived.KernelRfl
namespace Go.Proofs.Ytfljbiobiobamab
/- THE CELL 'sum', in the pinned program and in every row, IS THE sha256 OF THE DUMP (.gsa) THAT YtfljbiobiobamabProg.lean LOADS. Nothing in Lean hashes anything: it is a label: what it is worth is what the hold of that sum in a sandbox is worth. -/
noncomputable def Try.pinned : Pinned := { name := "ytfljbiobiobamab", sum := "040ff07d01de95eff7814d731521a25fca3afa20fddd6e2993be6933c22deb55", checked := Try.checked }
namespace Rows
def none {H : Type} : Left H := { results := [], args := [] }

/-- 'flintstorelaw.HeapMakes': WHATEVER THE INPUT: true; the input reads as it did. -/
def heapMakesSpec : ChangeSpec := { name := "heapMakes", fn := fun _ => fun
  | [d] => { results := [.lit (.bool true)], args := [d] }
  | _ => none }
def heapMakesRow : OpenClaim := { program := "ytfljbiobiobamab", sum := "040ff07d01de95eff7814d731521a25fca3afa20fddd6e2993be6933c22deb55", func := "flintstore/flintstorelaw.HeapMakes", spec := "heapMakes", unfollowed := true, recurses := true, apart := false }
def HeapMakesSaid : Prop := heapMakesRow.holds Try.pinned (OpenSpec.ofChange heapMakesSpec)

/-- ITS FALSE NEIGHBOUR: 'it returns false'. Refute it at one input. -/
def heapMakesWrong : ChangeSpec := { name := "heapMakes", fn := fun _ => fun
  | [d] => { results := [.lit (.bool false)], args := [d] }
  | _ => none }
def HeapMakesWrongFalsely : Prop := heapMakesRow.holds Try.pinned (OpenSpec.ofChange heapMakesWrong)

/-- 'flintstorelaw.VictimTells': WHATEVER THE INPUT: true; the input reads as it did. -/
def victimTellsSpec : ChangeSpec := { name := "victimTells", fn := fun _ => fun
  | [d1, d2] => { results := [.lit (.bool true)], args := [d1, d2] }
  | _ => none }
def victimTellsRow : OpenClaim := { program := "ytfljbiobiobamab", sum := "040ff07d01de95eff7814d731521a25fca3afa20fddd6e2993be6933c22deb55", func := "flintstore/flintstorelaw.VictimTells", spec := "victimTells", unfollowed := true, recurses := true, apart := false }
def VictimTellsSaid : Prop := victimTellsRow.holds Try.pinned (OpenSpec.ofChange victimTellsSpec)

/-- ITS FALSE NEIGHBOUR: 'it returns false'. Refute it at one input. -/
def victimTellsWrong : ChangeSpec := { name := "victimTells", fn := fun _ => fun
  | [d1, d2] => { results := [.lit (.bool false)], args := [d1, d2] }
  | _ => none }
def VictimTellsWrongFalsely : Prop := victimTellsRow.holds Try.pinned (OpenSpec.ofChange victimTellsWrong)

/-- 'flintstorelaw.VictimPlays': WHATEVER THE INPUT: true; the input reads as it did. -/
def victimPlaysSpec : ChangeSpec := { name := "victimPlays", fn := fun _ => fun
  | [d1, d2, d3] => { results := [.lit (.bool true)], args := [d1, d2, d3] }
  | _ => none }
def victimPlaysRow : OpenClaim := { program := "ytfljbiobiobamab", sum := "040ff07d01de95eff7814d731521a25fca3afa20fddd6e2993be6933c22deb55", func := "flintstore/flintstorelaw.VictimPlays", spec := "victimPlays", unfollowed := true, recurses := true, apart := false }
def VictimPlaysSaid : Prop := victimPlaysRow.holds Try.pinned (OpenSpec.ofChange victimPlaysSpec)

/-- ITS FALSE NEIGHBOUR: 'it returns false'. Refute it at one input. -/
def victimPlaysWrong : ChangeSpec := { name := "victimPlays", fn := fun _ => fun
  | [d1, d2, d3] => { results := [.lit (.bool false)], args := [d1, d2, d3] }
  | _ => none }
def VictimPlaysWrongFalsely : Prop := victimPlaysRow.holds Try.pinned (OpenSpec.ofChange victimPlaysWrong)

/-- 'flintstorelaw.FsckRepairs': WHATEVER THE INPUT: true; the input reads as it did. -/
def fsckRepairsSpec : ChangeSpec := { name := "fsckRepairs", fn := fun _ => fun
  | [d1, d2, d3] => { results := [.lit (.bool true)], args := [d1, d2, d3] }
  | _ => none }
def fsckRepairsRow : OpenClaim := { program := "ytfljbiobiobamab", sum := "040ff07d01de95eff7814d731521a25fca3afa20fddd6e2993be6933c22deb55", func := "flintstore/flintstorelaw.FsckRepairs", spec := "fsckRepairs", unfollowed := true, recurses := true, apart := false }
def FsckRepairsSaid : Prop := fsckRepairsRow.holds Try.pinned (OpenSpec.ofChange fsckRepairsSpec)

/-- ITS FALSE NEIGHBOUR: 'it returns false'. Refute it at one input. -/
def fsckRepairsWrong : ChangeSpec := { name := "fsckRepairs", fn := fun _ => fun
  | [d1, d2, d3] => { results := [.lit (.bool false)], args := [d1, d2, d3] }
  | _ => none }
def FsckRepairsWrongFalsely : Prop := fsckRepairsRow.holds Try.pinned (OpenSpec.ofChange fsckRepairsWrong)

/- THE SECOND FORM. 'bulk': how many values and letters a reading holds, each counted each time it is reached (what is shared counts as often as it is met; a slice's spare places count too). A statement '..UptoSaid' is the law's where the arguments, and the package variables that the reading takes, are together of bulk at most 1048576: NARROWER than '..Said'. Prove '..Said' where nothing that the law and all that it calls make is longer than what came in: it says more and counts as full. Else prove '..UptoSaid'. A law counts once. -/
mutual
def uptoBulk {H : Type} : DataW H → Nat
  | .lit (.string bytes) => bytes.length + 1
  | .lit _ => 1
  | .nil => 1
  | .ptr d => uptoBulk d + 1
  | .slice elems spare => uptoBulkAll elems + uptoBulkAll spare + 1
  | .agg parts => uptoBulkAll parts + 1
  | .iface _ d => uptoBulk d + 1
  | .map entries => uptoBulkEntries entries + 1
  | .held _ => 1
def uptoBulkAll {H : Type} : List (DataW H) → Nat
  | [] => 0
  | d :: r => uptoBulk d + uptoBulkAll r
def uptoBulkEntries {H : Type} : List (Lit × DataW H) → Nat
  | [] => 0
  | x :: r => uptoBulkEntry x + uptoBulkEntries r
def uptoBulkEntry {H : Type} : Lit × DataW H → Nat
  | (.string bytes, d) => bytes.length + uptoBulk d + 1
  | (_, d) => uptoBulk d + 1
 end
def uptoSmall : (H : Type) → List (DataW H) → Bool := fun _ ds => decide (uptoBulkAll ds ≤ 1048576)
def OpenSpec.upto (s : _root_.Go.ChangeSpec) : _root_.Go.OpenSpec := { _root_.Go.OpenSpec.ofChange s with cond := some uptoSmall }

/-- 'flintstorelaw.HeapMakes', WHERE WHAT IT READS IS OF BULK AT MOST 1048576: true; the input reads as it did. -/
def heapMakesUptoRow : OpenClaim := { program := "ytfljbiobiobamab", sum := "040ff07d01de95eff7814d731521a25fca3afa20fddd6e2993be6933c22deb55", func := "flintstore/flintstorelaw.HeapMakes", spec := "heapMakes", unfollowed := true, recurses := true, apart := false, narrowed := true }
def HeapMakesUptoSaid : Prop := heapMakesUptoRow.holds Try.pinned (OpenSpec.upto heapMakesSpec)

/-- 'flintstorelaw.VictimTells', WHERE WHAT IT READS IS OF BULK AT MOST 1048576: true; the input reads as it did. -/
def victimTellsUptoRow : OpenClaim := { program := "ytfljbiobiobamab", sum := "040ff07d01de95eff7814d731521a25fca3afa20fddd6e2993be6933c22deb55", func := "flintstore/flintstorelaw.VictimTells", spec := "victimTells", unfollowed := true, recurses := true, apart := false, narrowed := true }
def VictimTellsUptoSaid : Prop := victimTellsUptoRow.holds Try.pinned (OpenSpec.upto victimTellsSpec)

/-- 'flintstorelaw.VictimPlays', WHERE WHAT IT READS IS OF BULK AT MOST 1048576: true; the input reads as it did. -/
def victimPlaysUptoRow : OpenClaim := { program := "ytfljbiobiobamab", sum := "040ff07d01de95eff7814d731521a25fca3afa20fddd6e2993be6933c22deb55", func := "flintstore/flintstorelaw.VictimPlays", spec := "victimPlays", unfollowed := true, recurses := true, apart := false, narrowed := true }
def VictimPlaysUptoSaid : Prop := victimPlaysUptoRow.holds Try.pinned (OpenSpec.upto victimPlaysSpec)

/-- 'flintstorelaw.FsckRepairs', WHERE WHAT IT READS IS OF BULK AT MOST 1048576: true; the input reads as it did. -/
def fsckRepairsUptoRow : OpenClaim := { program := "ytfljbiobiobamab", sum := "040ff07d01de95eff7814d731521a25fca3afa20fddd6e2993be6933c22deb55", func := "flintstore/flintstorelaw.FsckRepairs", spec := "fsckRepairs", unfollowed := true, recurses := true, apart := false, narrowed := true }
def FsckRepairsUptoSaid : Prop := fsckRepairsUptoRow.holds Try.pinned (OpenSpec.upto fsckRepairsSpec)

end Rows
end Go.Proofs.Ytfljbiobiobamab
