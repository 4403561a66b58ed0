/-
  No cell of these rows narrows 'for every input' (looked for: loops, veiled, ifaces, maps, wideKeys, modest, calm, conditions, laid).
  DERIVED. THE GIVEN ROWS OF THIS SEAT. 6 by the template 'for every input the law returns true; each argument reads behind the call as it read before'; 0 by the template 'total and deterministic' (their statements: YtakmfjnfkjdbfaaTotals.lean).
  GIVEN WITH THE SEED: the statements are not yours to turn. If you find one false, say at which input.
  Laid BY PROGRAM, IN A SANDBOX (cutbox-rows.mjs): the forced cells as the released guide's own fill.sh prints them over the translation 0f71f2aebbc60f10… (all of the seat's roots in one cut). By AI agents, Wed Nov 11 2026. No macro, syntax, notation, axiom, sorry.
-/
import Derived.Test.YtakmfjnfkjdbfaaChecked
import GoSem.Claim
import GoSem.ClaimJoined
import GoSem.ClaimMapViews
import Derived.JoinedTies
import Derived.KernelRfl
namespace Go.Proofs.Ytakmfjnfkjdbfaa
/- THE CELL 'sum', in the pinned program and in every row, IS THE sha256 OF THE DUMP (.gsa) THAT YtakmfjnfkjdbfaaProg.lean LOADS. Nothing in Lean hashes anything: it is a label: what it is worth is what the hold of that sum in a sandbox is worth. -/
noncomputable def Try.pinned : Pinned := { name := "ytakmfjnfkjdbfaa", sum := "0f71f2aebbc60f109f8efc9c00d046b62d679df5fa5b275f379b49c2948b5563", checked := Try.checked }
namespace Rows
def none {H : Type} : Left H := { results := [], args := [] }

/-- 'flintstorelaw.HeapSteps': WHATEVER THE INPUT: true; the input reads as it did. -/
def heapStepsSpec : ChangeSpec := { name := "heapSteps", fn := fun _ => fun
  | [d1, d2] => { results := [.lit (.bool true)], args := [d1, d2] }
  | _ => none }
def heapStepsRow : OpenClaim := { program := "ytakmfjnfkjdbfaa", sum := "0f71f2aebbc60f109f8efc9c00d046b62d679df5fa5b275f379b49c2948b5563", func := "flintstore/flintstorelaw.HeapSteps", spec := "heapSteps", apart := false }
def HeapStepsSaid : Prop := heapStepsRow.holds Try.pinned (OpenSpec.ofChange heapStepsSpec)

/-- ITS FALSE NEIGHBOUR: 'it returns false'. Refute it at one input. -/
def heapStepsWrong : ChangeSpec := { name := "heapSteps", fn := fun _ => fun
  | [d1, d2] => { results := [.lit (.bool false)], args := [d1, d2] }
  | _ => none }
def HeapStepsWrongFalsely : Prop := heapStepsRow.holds Try.pinned (OpenSpec.ofChange heapStepsWrong)

/-- 'flintstorelaw.PressTells': WHATEVER THE INPUT: true; the input reads as it did. -/
def pressTellsSpec : ChangeSpec := { name := "pressTells", fn := fun _ => fun
  | [d] => { results := [.lit (.bool true)], args := [d] }
  | _ => none }
def pressTellsRow : OpenClaim := { program := "ytakmfjnfkjdbfaa", sum := "0f71f2aebbc60f109f8efc9c00d046b62d679df5fa5b275f379b49c2948b5563", func := "flintstore/flintstorelaw.PressTells", spec := "pressTells", inPlace := ["internal/bytealg.MakeNoZero"], unfollowed := true, recurses := true, apart := false }
def PressTellsSaid : Prop := pressTellsRow.holds Try.pinned (OpenSpec.ofChange pressTellsSpec)

/-- ITS FALSE NEIGHBOUR: 'it returns false'. Refute it at one input. -/
def pressTellsWrong : ChangeSpec := { name := "pressTells", fn := fun _ => fun
  | [d] => { results := [.lit (.bool false)], args := [d] }
  | _ => none }
def PressTellsWrongFalsely : Prop := pressTellsRow.holds Try.pinned (OpenSpec.ofChange pressTellsWrong)

/-- 'flintstorelaw.SpaceSteps': WHATEVER THE INPUT: true; the input reads as it did. -/
def spaceStepsSpec : ChangeSpec := { name := "spaceSteps", fn := fun _ => fun
  | [d1, d2, d3] => { results := [.lit (.bool true)], args := [d1, d2, d3] }
  | _ => none }
def spaceStepsRow : OpenClaim := { program := "ytakmfjnfkjdbfaa", sum := "0f71f2aebbc60f109f8efc9c00d046b62d679df5fa5b275f379b49c2948b5563", func := "flintstore/flintstorelaw.SpaceSteps", spec := "spaceSteps", inPlace := ["slices.overlaps[flintstore/api.Gap]"], unfollowed := true, recurses := true, apart := false }
def SpaceStepsSaid : Prop := spaceStepsRow.holds Try.pinned (OpenSpec.ofChange spaceStepsSpec)

/-- ITS FALSE NEIGHBOUR: 'it returns false'. Refute it at one input. -/
def spaceStepsWrong : ChangeSpec := { name := "spaceSteps", fn := fun _ => fun
  | [d1, d2, d3] => { results := [.lit (.bool false)], args := [d1, d2, d3] }
  | _ => none }
def SpaceStepsWrongFalsely : Prop := spaceStepsRow.holds Try.pinned (OpenSpec.ofChange spaceStepsWrong)

/-- 'flintstorelaw.SpacePlays': WHATEVER THE INPUT: true; the input reads as it did. -/
def spacePlaysSpec : ChangeSpec := { name := "spacePlays", fn := fun _ => fun
  | [d1, d2] => { results := [.lit (.bool true)], args := [d1, d2] }
  | _ => none }
def spacePlaysRow : OpenClaim := { program := "ytakmfjnfkjdbfaa", sum := "0f71f2aebbc60f109f8efc9c00d046b62d679df5fa5b275f379b49c2948b5563", func := "flintstore/flintstorelaw.SpacePlays", spec := "spacePlays", inPlace := ["slices.overlaps[flintstore/api.Gap]"], unfollowed := true, recurses := true, apart := false }
def SpacePlaysSaid : Prop := spacePlaysRow.holds Try.pinned (OpenSpec.ofChange spacePlaysSpec)

/-- ITS FALSE NEIGHBOUR: 'it returns false'. Refute it at one input. -/
def spacePlaysWrong : ChangeSpec := { name := "spacePlays", fn := fun _ => fun
  | [d1, d2] => { results := [.lit (.bool false)], args := [d1, d2] }
  | _ => none }
def SpacePlaysWrongFalsely : Prop := spacePlaysRow.holds Try.pinned (OpenSpec.ofChange spacePlaysWrong)

/-- 'flintstorelaw.VictimTells': WHATEVER THE INPUT: true; the input reads as it did. -/
def victimTellsSpec : ChangeSpec := { name := "victimTells", fn := fun _ => fun
  | [d1, d2] => { results := [.lit (.bool true)], args := [d1, d2] }
  | _ => none }
def victimTellsRow : OpenClaim := { program := "ytakmfjnfkjdbfaa", sum := "0f71f2aebbc60f109f8efc9c00d046b62d679df5fa5b275f379b49c2948b5563", func := "flintstore/flintstorelaw.VictimTells", spec := "victimTells", unfollowed := true, recurses := true, apart := false }
def VictimTellsSaid : Prop := victimTellsRow.holds Try.pinned (OpenSpec.ofChange victimTellsSpec)

/-- ITS FALSE NEIGHBOUR: 'it returns false'. Refute it at one input. -/
def victimTellsWrong : ChangeSpec := { name := "victimTells", fn := fun _ => fun
  | [d1, d2] => { results := [.lit (.bool false)], args := [d1, d2] }
  | _ => none }
def VictimTellsWrongFalsely : Prop := victimTellsRow.holds Try.pinned (OpenSpec.ofChange victimTellsWrong)

/-- 'flintstorelaw.VictimPlays': WHATEVER THE INPUT: true; the input reads as it did. -/
def victimPlaysSpec : ChangeSpec := { name := "victimPlays", fn := fun _ => fun
  | [d1, d2, d3] => { results := [.lit (.bool true)], args := [d1, d2, d3] }
  | _ => none }
def victimPlaysRow : OpenClaim := { program := "ytakmfjnfkjdbfaa", sum := "0f71f2aebbc60f109f8efc9c00d046b62d679df5fa5b275f379b49c2948b5563", func := "flintstore/flintstorelaw.VictimPlays", spec := "victimPlays", unfollowed := true, recurses := true, apart := false }
def VictimPlaysSaid : Prop := victimPlaysRow.holds Try.pinned (OpenSpec.ofChange victimPlaysSpec)

/-- ITS FALSE NEIGHBOUR: 'it returns false'. Refute it at one input. -/
def victimPlaysWrong : ChangeSpec := { name := "victimPlays", fn := fun _ => fun
  | [d1, d2, d3] => { results := [.lit (.bool false)], args := [d1, d2, d3] }
  | _ => none }
def VictimPlaysWrongFalsely : Prop := victimPlaysRow.holds Try.pinned (OpenSpec.ofChange victimPlaysWrong)

/- THE SECOND FORM. 'bulk': how many values and letters a reading holds, each counted each time it is reached (what is shared counts as often as it is met; a slice's spare places count too). A statement '..UptoSaid' is the law's where the arguments, and the package variables that the reading takes, are together of bulk at most 1048576: NARROWER than '..Said'. Prove '..Said' where nothing that the law and all that it calls make is longer than what came in: it says more and counts as full. Else prove '..UptoSaid'. A law counts once. -/
mutual
def uptoBulk {H : Type} : DataW H → Nat
  | .lit (.string bytes) => bytes.length + 1
  | .lit _ => 1
  | .nil => 1
  | .ptr d => uptoBulk d + 1
  | .slice elems spare => uptoBulkAll elems + uptoBulkAll spare + 1
  | .agg parts => uptoBulkAll parts + 1
  | .iface _ d => uptoBulk d + 1
  | .map entries => uptoBulkEntries entries + 1
  | .held _ => 1
def uptoBulkAll {H : Type} : List (DataW H) → Nat
  | [] => 0
  | d :: r => uptoBulk d + uptoBulkAll r
def uptoBulkEntries {H : Type} : List (Lit × DataW H) → Nat
  | [] => 0
  | x :: r => uptoBulkEntry x + uptoBulkEntries r
def uptoBulkEntry {H : Type} : Lit × DataW H → Nat
  | (.string bytes, d) => bytes.length + uptoBulk d + 1
  | (_, d) => uptoBulk d + 1
 end
def uptoSmall : (H : Type) → List (DataW H) → Bool := fun _ ds => decide (uptoBulkAll ds ≤ 1048576)
def OpenSpec.upto (s : _root_.Go.ChangeSpec) : _root_.Go.OpenSpec := { _root_.Go.OpenSpec.ofChange s with cond := some uptoSmall }

/-- 'flintstorelaw.HeapSteps', WHERE WHAT IT READS IS OF BULK AT MOST 1048576: true; the input reads as it did. -/
def heapStepsUptoRow : OpenClaim := { program := "ytakmfjnfkjdbfaa", sum := "0f71f2aebbc60f109f8efc9c00d046b62d679df5fa5b275f379b49c2948b5563", func := "flintstore/flintstorelaw.HeapSteps", spec := "heapSteps", apart := false, narrowed := true }
def HeapStepsUptoSaid : Prop := heapStepsUptoRow.holds Try.pinned (OpenSpec.upto heapStepsSpec)

/-- 'flintstorelaw.PressTells', WHERE WHAT IT READS IS OF BULK AT MOST 1048576: true; the input reads as it did. -/
def pressTellsUptoRow : OpenClaim := { program := "ytakmfjnfkjdbfaa", sum := "0f71f2aebbc60f109f8efc9c00d046b62d679df5fa5b275f379b49c2948b5563", func := "flintstore/flintstorelaw.PressTells", spec := "pressTells", inPlace := ["internal/bytealg.MakeNoZero"], unfollowed := true, recurses := true, apart := false, narrowed := true }
def PressTellsUptoSaid : Prop := pressTellsUptoRow.holds Try.pinned (OpenSpec.upto pressTellsSpec)

/-- 'flintstorelaw.SpaceSteps', WHERE WHAT IT READS IS OF BULK AT MOST 1048576: true; the input reads as it did. -/
def spaceStepsUptoRow : OpenClaim := { program := "ytakmfjnfkjdbfaa", sum := "0f71f2aebbc60f109f8efc9c00d046b62d679df5fa5b275f379b49c2948b5563", func := "flintstore/flintstorelaw.SpaceSteps", spec := "spaceSteps", inPlace := ["slices.overlaps[flintstore/api.Gap]"], unfollowed := true, recurses := true, apart := false, narrowed := true }
def SpaceStepsUptoSaid : Prop := spaceStepsUptoRow.holds Try.pinned (OpenSpec.upto spaceStepsSpec)

/-- 'flintstorelaw.SpacePlays', WHERE WHAT IT READS IS OF BULK AT MOST 1048576: true; the input reads as it did. -/
def spacePlaysUptoRow : OpenClaim := { program := "ytakmfjnfkjdbfaa", sum := "0f71f2aebbc60f109f8efc9c00d046b62d679df5fa5b275f379b49c2948b5563", func := "flintstore/flintstorelaw.SpacePlays", spec := "spacePlays", inPlace := ["slices.overlaps[flintstore/api.Gap]"], unfollowed := true, recurses := true, apart := false, narrowed := true }
def SpacePlaysUptoSaid : Prop := spacePlaysUptoRow.holds Try.pinned (OpenSpec.upto spacePlaysSpec)

/-- 'flintstorelaw.VictimTells', WHERE WHAT IT READS IS OF BULK AT MOST 1048576: true; the input reads as it did. -/
def victimTellsUptoRow : OpenClaim := { program := "ytakmfjnfkjdbfaa", sum := "0f71f2aebbc60f109f8efc9c00d046b62d679df5fa5b275f379b49c2948b5563", func := "flintstore/flintstorelaw.VictimTells", spec := "victimTells", unfollowed := true, recurses := true, apart := false, narrowed := true }
def VictimTellsUptoSaid : Prop := victimTellsUptoRow.holds Try.pinned (OpenSpec.upto victimTellsSpec)

/-- 'flintstorelaw.VictimPlays', WHERE WHAT IT READS IS OF BULK AT MOST 1048576: true; the input reads as it did. -/
def victimPlaysUptoRow : OpenClaim := { program := "ytakmfjnfkjdbfaa", sum := "0f71f2aebbc60f109f8efc9c00d046b62d679df5fa5b275f379b49c2948b5563", func := "flintstore/flintstorelaw.VictimPlays", spec := "victimPlays", unfollowed := true, recurses := true, apart := false, narrowed := true }
def VictimPlaysUptoSaid : Prop := victimPlaysUptoRow.holds Try.pinned (OpenSpec.upto victimPlaysSpec)

end Rows
end Go.Proofs.Ytakmfjnfkjdbfaa
