/-
  No cell of these rows narrows 'for every input' (looked for: loops, veiled, ifaces, maps, wideKeys, modest, calm, conditions, laid).
  DERIVED. THE GIVEN ROWS OF THIS SEAT. 6 by the template 'for every input the law returns true; each argument reads behind the call as it read before'; 0 by the template 'total and deterministic' (their statements: YtcndddjnlnigeaaTotals.lean).
  GIVEN WITH THE SEED: the statements are not yours to turn. If you find one false, say at which input.
  Laid BY PROGRAM, IN A SANDBOX (cutbox-rows.mjs): the forced cells as the released guide's own fill.sh prints them over the translation 259f73b526e7515b… (all of the seat's roots in one cut). By AI agents, Wed Nov 11 2026. No macro, syntax, notation, axiom, sorry.
-/
import Derived.Test.YtcndddjnlnigeaaChecked
import GoSem.Claim
import GoSem.ClaimJoined
import GoSem.ClaimMapViews
import Derived.JoinedTies
import Derived.KernelRfl
namespace Go.Proofs.Ytcndddjnlnigeaa
/- THE CELL 'sum', in the pinned program and in every row, IS THE sha256 OF THE DUMP (.gsa) THAT YtcndddjnlnigeaaProg.lean LOADS. Nothing in Lean hashes anything: it is a label: what it is worth is what the hold of that sum in a sandbox is worth. -/
noncomputable def Try.pinned : Pinned := { name := "ytcndddjnlnigeaa", sum := "259f73b526e7515b82b508482cf654c08ef475ec0add6b148a1ee1b106153b72", checked := Try.checked }
namespace Rows
def none {H : Type} : Left H := { results := [], args := [] }

/-- 'flintstorelaw.DedupPlays': WHATEVER THE INPUT: true; the input reads as it did. -/
def dedupPlaysSpec : ChangeSpec := { name := "dedupPlays", fn := fun _ => fun
  | [d] => { results := [.lit (.bool true)], args := [d] }
  | _ => none }
def dedupPlaysRow : OpenClaim := { program := "ytcndddjnlnigeaa", sum := "259f73b526e7515b82b508482cf654c08ef475ec0add6b148a1ee1b106153b72", func := "flintstore/flintstorelaw.DedupPlays", spec := "dedupPlays", apart := false }
def DedupPlaysSaid : Prop := dedupPlaysRow.holds Try.pinned (OpenSpec.ofChange dedupPlaysSpec)

/-- ITS FALSE NEIGHBOUR: 'it returns false'. Refute it at one input. -/
def dedupPlaysWrong : ChangeSpec := { name := "dedupPlays", fn := fun _ => fun
  | [d] => { results := [.lit (.bool false)], args := [d] }
  | _ => none }
def DedupPlaysWrongFalsely : Prop := dedupPlaysRow.holds Try.pinned (OpenSpec.ofChange dedupPlaysWrong)

/-- 'flintstorelaw.RemapPlays': WHATEVER THE INPUT: true; the input reads as it did. -/
def remapPlaysSpec : ChangeSpec := { name := "remapPlays", fn := fun _ => fun
  | [d1, d2, d3] => { results := [.lit (.bool true)], args := [d1, d2, d3] }
  | _ => none }
def remapPlaysRow : OpenClaim := { program := "ytcndddjnlnigeaa", sum := "259f73b526e7515b82b508482cf654c08ef475ec0add6b148a1ee1b106153b72", func := "flintstore/flintstorelaw.RemapPlays", spec := "remapPlays", unfollowed := true, recurses := true, apart := false }
def RemapPlaysSaid : Prop := remapPlaysRow.holds Try.pinned (OpenSpec.ofChange remapPlaysSpec)

/-- ITS FALSE NEIGHBOUR: 'it returns false'. Refute it at one input. -/
def remapPlaysWrong : ChangeSpec := { name := "remapPlays", fn := fun _ => fun
  | [d1, d2, d3] => { results := [.lit (.bool false)], args := [d1, d2, d3] }
  | _ => none }
def RemapPlaysWrongFalsely : Prop := remapPlaysRow.holds Try.pinned (OpenSpec.ofChange remapPlaysWrong)

/-- 'flintstorelaw.MergeTwo': WHATEVER THE INPUT: true; the input reads as it did. -/
def mergeTwoSpec : ChangeSpec := { name := "mergeTwo", fn := fun _ => fun
  | [d1, d2, d3] => { results := [.lit (.bool true)], args := [d1, d2, d3] }
  | _ => none }
def mergeTwoRow : OpenClaim := { program := "ytcndddjnlnigeaa", sum := "259f73b526e7515b82b508482cf654c08ef475ec0add6b148a1ee1b106153b72", func := "flintstore/flintstorelaw.MergeTwo", spec := "mergeTwo", unfollowed := true, recurses := true, apart := false }
def MergeTwoSaid : Prop := mergeTwoRow.holds Try.pinned (OpenSpec.ofChange mergeTwoSpec)

/-- ITS FALSE NEIGHBOUR: 'it returns false'. Refute it at one input. -/
def mergeTwoWrong : ChangeSpec := { name := "mergeTwo", fn := fun _ => fun
  | [d1, d2, d3] => { results := [.lit (.bool false)], args := [d1, d2, d3] }
  | _ => none }
def MergeTwoWrongFalsely : Prop := mergeTwoRow.holds Try.pinned (OpenSpec.ofChange mergeTwoWrong)

/-- 'flintstorelaw.NandSteps': WHATEVER THE INPUT: true; the input reads as it did. -/
def nandStepsSpec : ChangeSpec := { name := "nandSteps", fn := fun _ => fun
  | [d1, d2] => { results := [.lit (.bool true)], args := [d1, d2] }
  | _ => none }
def nandStepsRow : OpenClaim := { program := "ytcndddjnlnigeaa", sum := "259f73b526e7515b82b508482cf654c08ef475ec0add6b148a1ee1b106153b72", func := "flintstore/flintstorelaw.NandSteps", spec := "nandSteps", apart := false }
def NandStepsSaid : Prop := nandStepsRow.holds Try.pinned (OpenSpec.ofChange nandStepsSpec)

/-- ITS FALSE NEIGHBOUR: 'it returns false'. Refute it at one input. -/
def nandStepsWrong : ChangeSpec := { name := "nandSteps", fn := fun _ => fun
  | [d1, d2] => { results := [.lit (.bool false)], args := [d1, d2] }
  | _ => none }
def NandStepsWrongFalsely : Prop := nandStepsRow.holds Try.pinned (OpenSpec.ofChange nandStepsWrong)

/-- 'flintstorelaw.NandPlays': WHATEVER THE INPUT: true; the input reads as it did. -/
def nandPlaysSpec : ChangeSpec := { name := "nandPlays", fn := fun _ => fun
  | [d] => { results := [.lit (.bool true)], args := [d] }
  | _ => none }
def nandPlaysRow : OpenClaim := { program := "ytcndddjnlnigeaa", sum := "259f73b526e7515b82b508482cf654c08ef475ec0add6b148a1ee1b106153b72", func := "flintstore/flintstorelaw.NandPlays", spec := "nandPlays", apart := false }
def NandPlaysSaid : Prop := nandPlaysRow.holds Try.pinned (OpenSpec.ofChange nandPlaysSpec)

/-- ITS FALSE NEIGHBOUR: 'it returns false'. Refute it at one input. -/
def nandPlaysWrong : ChangeSpec := { name := "nandPlays", fn := fun _ => fun
  | [d] => { results := [.lit (.bool false)], args := [d] }
  | _ => none }
def NandPlaysWrongFalsely : Prop := nandPlaysRow.holds Try.pinned (OpenSpec.ofChange nandPlaysWrong)

/-- 'flintstorelaw.RunsCut': WHATEVER THE INPUT: true; the input reads as it did. -/
def runsCutSpec : ChangeSpec := { name := "runsCut", fn := fun _ => fun
  | [d1, d2, d3] => { results := [.lit (.bool true)], args := [d1, d2, d3] }
  | _ => none }
def runsCutRow : OpenClaim := { program := "ytcndddjnlnigeaa", sum := "259f73b526e7515b82b508482cf654c08ef475ec0add6b148a1ee1b106153b72", func := "flintstore/flintstorelaw.RunsCut", spec := "runsCut", apart := false }
def RunsCutSaid : Prop := runsCutRow.holds Try.pinned (OpenSpec.ofChange runsCutSpec)

/-- ITS FALSE NEIGHBOUR: 'it returns false'. Refute it at one input. -/
def runsCutWrong : ChangeSpec := { name := "runsCut", fn := fun _ => fun
  | [d1, d2, d3] => { results := [.lit (.bool false)], args := [d1, d2, d3] }
  | _ => none }
def RunsCutWrongFalsely : Prop := runsCutRow.holds Try.pinned (OpenSpec.ofChange runsCutWrong)

/- THE SECOND FORM. 'bulk': how many values and letters a reading holds, each counted each time it is reached (what is shared counts as often as it is met; a slice's spare places count too). A statement '..UptoSaid' is the law's where the arguments, and the package variables that the reading takes, are together of bulk at most 1048576: NARROWER than '..Said'. Prove '..Said' where nothing that the law and all that it calls make is longer than what came in: it says more and counts as full. Else prove '..UptoSaid'. A law counts once. -/
mutual
def uptoBulk {H : Type} : DataW H → Nat
  | .lit (.string bytes) => bytes.length + 1
  | .lit _ => 1
  | .nil => 1
  | .ptr d => uptoBulk d + 1
  | .slice elems spare => uptoBulkAll elems + uptoBulkAll spare + 1
  | .agg parts => uptoBulkAll parts + 1
  | .iface _ d => uptoBulk d + 1
  | .map entries => uptoBulkEntries entries + 1
  | .held _ => 1
def uptoBulkAll {H : Type} : List (DataW H) → Nat
  | [] => 0
  | d :: r => uptoBulk d + uptoBulkAll r
def uptoBulkEntries {H : Type} : List (Lit × DataW H) → Nat
  | [] => 0
  | x :: r => uptoBulkEntry x + uptoBulkEntries r
def uptoBulkEntry {H : Type} : Lit × DataW H → Nat
  | (.string bytes, d) => bytes.length + uptoBulk d + 1
  | (_, d) => uptoBulk d + 1
 end
def uptoSmall : (H : Type) → List (DataW H) → Bool := fun _ ds => decide (uptoBulkAll ds ≤ 1048576)
def OpenSpec.upto (s : _root_.Go.ChangeSpec) : _root_.Go.OpenSpec := { _root_.Go.OpenSpec.ofChange s with cond := some uptoSmall }

/-- 'flintstorelaw.DedupPlays', WHERE WHAT IT READS IS OF BULK AT MOST 1048576: true; the input reads as it did. -/
def dedupPlaysUptoRow : OpenClaim := { program := "ytcndddjnlnigeaa", sum := "259f73b526e7515b82b508482cf654c08ef475ec0add6b148a1ee1b106153b72", func := "flintstore/flintstorelaw.DedupPlays", spec := "dedupPlays", apart := false, narrowed := true }
def DedupPlaysUptoSaid : Prop := dedupPlaysUptoRow.holds Try.pinned (OpenSpec.upto dedupPlaysSpec)

/-- 'flintstorelaw.RemapPlays', WHERE WHAT IT READS IS OF BULK AT MOST 1048576: true; the input reads as it did. -/
def remapPlaysUptoRow : OpenClaim := { program := "ytcndddjnlnigeaa", sum := "259f73b526e7515b82b508482cf654c08ef475ec0add6b148a1ee1b106153b72", func := "flintstore/flintstorelaw.RemapPlays", spec := "remapPlays", unfollowed := true, recurses := true, apart := false, narrowed := true }
def RemapPlaysUptoSaid : Prop := remapPlaysUptoRow.holds Try.pinned (OpenSpec.upto remapPlaysSpec)

/-- 'flintstorelaw.MergeTwo', WHERE WHAT IT READS IS OF BULK AT MOST 1048576: true; the input reads as it did. -/
def mergeTwoUptoRow : OpenClaim := { program := "ytcndddjnlnigeaa", sum := "259f73b526e7515b82b508482cf654c08ef475ec0add6b148a1ee1b106153b72", func := "flintstore/flintstorelaw.MergeTwo", spec := "mergeTwo", unfollowed := true, recurses := true, apart := false, narrowed := true }
def MergeTwoUptoSaid : Prop := mergeTwoUptoRow.holds Try.pinned (OpenSpec.upto mergeTwoSpec)

/-- 'flintstorelaw.NandSteps', WHERE WHAT IT READS IS OF BULK AT MOST 1048576: true; the input reads as it did. -/
def nandStepsUptoRow : OpenClaim := { program := "ytcndddjnlnigeaa", sum := "259f73b526e7515b82b508482cf654c08ef475ec0add6b148a1ee1b106153b72", func := "flintstore/flintstorelaw.NandSteps", spec := "nandSteps", apart := false, narrowed := true }
def NandStepsUptoSaid : Prop := nandStepsUptoRow.holds Try.pinned (OpenSpec.upto nandStepsSpec)

/-- 'flintstorelaw.NandPlays', WHERE WHAT IT READS IS OF BULK AT MOST 1048576: true; the input reads as it did. -/
def nandPlaysUptoRow : OpenClaim := { program := "ytcndddjnlnigeaa", sum := "259f73b526e7515b82b508482cf654c08ef475ec0add6b148a1ee1b106153b72", func := "flintstore/flintstorelaw.NandPlays", spec := "nandPlays", apart := false, narrowed := true }
def NandPlaysUptoSaid : Prop := nandPlaysUptoRow.holds Try.pinned (OpenSpec.upto nandPlaysSpec)

/-- 'flintstorelaw.RunsCut', WHERE WHAT IT READS IS OF BULK AT MOST 1048576: true; the input reads as it did. -/
def runsCutUptoRow : OpenClaim := { program := "ytcndddjnlnigeaa", sum := "259f73b526e7515b82b508482cf654c08ef475ec0add6b148a1ee1b106153b72", func := "flintstore/flintstorelaw.RunsCut", spec := "runsCut", apart := false, narrowed := true }
def RunsCutUptoSaid : Prop := runsCutUptoRow.holds Try.pinned (OpenSpec.upto runsCutSpec)

end Rows
end Go.Proofs.Ytcndddjnlnigeaa
