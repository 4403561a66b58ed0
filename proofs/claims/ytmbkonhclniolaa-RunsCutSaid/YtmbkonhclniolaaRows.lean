/-
  No cell of these rows narrows 'for every input' (looked for: loops, veiled, ifaces, maps, wideKeys, modest, calm, conditions, laid).
  DERIVED. THE GIVEN ROWS OF THIS SEAT. 6 by the template 'for every input the law returns true; each argument reads behind the call as it read before'; 0 by the template 'total and deterministic' (their statements: YtmbkonhclniolaaTotals.lean).
  GIVEN WITH THE SEED: the statements are not yours to turn. If you find one false, say at which input.
  Laid BY PROGRAM, IN A SANDBOX (cutbox-rows.mjs): the forced cells as the released guide's own fill.sh prints them over the translation c4d9187ee01dc533… (all of the seat's roots in one cut). By AI agents, Wed Nov 11 2026. No macro, syntax, notation, axiom, sorry.
-/
import Derived.Test.YtmbkonhclniolaaChecked
import GoSem.Claim
import GoSem.ClaimJoined
import GoSem.ClaimMapViews
import Derived.JoinedTies
import Derived.KernelRfl
namespace Go.Proofs.Ytmbkonhclniolaa
/- THE CELL 'sum', in the pinned program and in every row, IS THE sha256 OF THE DUMP (.gsa) THAT YtmbkonhclniolaaProg.lean LOADS. Nothing in Lean hashes anything: it is a label: what it is worth is what the hold of that sum in a sandbox is worth. -/
noncomputable def Try.pinned : Pinned := { name := "ytmbkonhclniolaa", sum := "c4d9187ee01dc5330e7db3b197be885e5ce7039ab9ab33a397fe4a491671ec6b", checked := Try.checked }
namespace Rows
def none {H : Type} : Left H := { results := [], args := [] }

/-- 'flintstorelaw.NandSteps': WHATEVER THE INPUT: true; the input reads as it did. -/
def nandStepsSpec : ChangeSpec := { name := "nandSteps", fn := fun _ => fun
  | [d1, d2] => { results := [.lit (.bool true)], args := [d1, d2] }
  | _ => none }
def nandStepsRow : OpenClaim := { program := "ytmbkonhclniolaa", sum := "c4d9187ee01dc5330e7db3b197be885e5ce7039ab9ab33a397fe4a491671ec6b", func := "flintstore/flintstorelaw.NandSteps", spec := "nandSteps", apart := false }
def NandStepsSaid : Prop := nandStepsRow.holds Try.pinned (OpenSpec.ofChange nandStepsSpec)

/-- ITS FALSE NEIGHBOUR: 'it returns false'. Refute it at one input. -/
def nandStepsWrong : ChangeSpec := { name := "nandSteps", fn := fun _ => fun
  | [d1, d2] => { results := [.lit (.bool false)], args := [d1, d2] }
  | _ => none }
def NandStepsWrongFalsely : Prop := nandStepsRow.holds Try.pinned (OpenSpec.ofChange nandStepsWrong)

/-- 'flintstorelaw.NandPlays': WHATEVER THE INPUT: true; the input reads as it did. -/
def nandPlaysSpec : ChangeSpec := { name := "nandPlays", fn := fun _ => fun
  | [d] => { results := [.lit (.bool true)], args := [d] }
  | _ => none }
def nandPlaysRow : OpenClaim := { program := "ytmbkonhclniolaa", sum := "c4d9187ee01dc5330e7db3b197be885e5ce7039ab9ab33a397fe4a491671ec6b", func := "flintstore/flintstorelaw.NandPlays", spec := "nandPlays", apart := false }
def NandPlaysSaid : Prop := nandPlaysRow.holds Try.pinned (OpenSpec.ofChange nandPlaysSpec)

/-- ITS FALSE NEIGHBOUR: 'it returns false'. Refute it at one input. -/
def nandPlaysWrong : ChangeSpec := { name := "nandPlays", fn := fun _ => fun
  | [d] => { results := [.lit (.bool false)], args := [d] }
  | _ => none }
def NandPlaysWrongFalsely : Prop := nandPlaysRow.holds Try.pinned (OpenSpec.ofChange nandPlaysWrong)

/-- 'flintstorelaw.DedupPlays': WHATEVER THE INPUT: true; the input reads as it did. -/
def dedupPlaysSpec : ChangeSpec := { name := "dedupPlays", fn := fun _ => fun
  | [d] => { results := [.lit (.bool true)], args := [d] }
  | _ => none }
def dedupPlaysRow : OpenClaim := { program := "ytmbkonhclniolaa", sum := "c4d9187ee01dc5330e7db3b197be885e5ce7039ab9ab33a397fe4a491671ec6b", func := "flintstore/flintstorelaw.DedupPlays", spec := "dedupPlays", apart := false }
def DedupPlaysSaid : Prop := dedupPlaysRow.holds Try.pinned (OpenSpec.ofChange dedupPlaysSpec)

/-- ITS FALSE NEIGHBOUR: 'it returns false'. Refute it at one input. -/
def dedupPlaysWrong : ChangeSpec := { name := "dedupPlays", fn := fun _ => fun
  | [d] => { results := [.lit (.bool false)], args := [d] }
  | _ => none }
def DedupPlaysWrongFalsely : Prop := dedupPlaysRow.holds Try.pinned (OpenSpec.ofChange dedupPlaysWrong)

/-- 'flintstorelaw.RunsCut': WHATEVER THE INPUT: true; the input reads as it did. -/
def runsCutSpec : ChangeSpec := { name := "runsCut", fn := fun _ => fun
  | [d1, d2, d3] => { results := [.lit (.bool true)], args := [d1, d2, d3] }
  | _ => none }
def runsCutRow : OpenClaim := { program := "ytmbkonhclniolaa", sum := "c4d9187ee01dc5330e7db3b197be885e5ce7039ab9ab33a397fe4a491671ec6b", func := "flintstore/flintstorelaw.RunsCut", spec := "runsCut", apart := false }
def RunsCutSaid : Prop := runsCutRow.holds Try.pinned (OpenSpec.ofChange runsCutSpec)

/-- ITS FALSE NEIGHBOUR: 'it returns false'. Refute it at one input. -/
def runsCutWrong : ChangeSpec := { name := "runsCut", fn := fun _ => fun
  | [d1, d2, d3] => { results := [.lit (.bool false)], args := [d1, d2, d3] }
  | _ => none }
def RunsCutWrongFalsely : Prop := runsCutRow.holds Try.pinned (OpenSpec.ofChange runsCutWrong)

/-- 'flintstorelaw.CachePlays': WHATEVER THE INPUT: true; the input reads as it did. -/
def cachePlaysSpec : ChangeSpec := { name := "cachePlays", fn := fun _ => fun
  | [d1, d2] => { results := [.lit (.bool true)], args := [d1, d2] }
  | _ => none }
def cachePlaysRow : OpenClaim := { program := "ytmbkonhclniolaa", sum := "c4d9187ee01dc5330e7db3b197be885e5ce7039ab9ab33a397fe4a491671ec6b", func := "flintstore/flintstorelaw.CachePlays", spec := "cachePlays", unfollowed := true, recurses := true, apart := false }
def CachePlaysSaid : Prop := cachePlaysRow.holds Try.pinned (OpenSpec.ofChange cachePlaysSpec)

/-- ITS FALSE NEIGHBOUR: 'it returns false'. Refute it at one input. -/
def cachePlaysWrong : ChangeSpec := { name := "cachePlays", fn := fun _ => fun
  | [d1, d2] => { results := [.lit (.bool false)], args := [d1, d2] }
  | _ => none }
def CachePlaysWrongFalsely : Prop := cachePlaysRow.holds Try.pinned (OpenSpec.ofChange cachePlaysWrong)

/-- 'flintstorelaw.FilePlays': WHATEVER THE INPUT: true; the input reads as it did. -/
def filePlaysSpec : ChangeSpec := { name := "filePlays", fn := fun _ => fun
  | [d] => { results := [.lit (.bool true)], args := [d] }
  | _ => none }
def filePlaysRow : OpenClaim := { program := "ytmbkonhclniolaa", sum := "c4d9187ee01dc5330e7db3b197be885e5ce7039ab9ab33a397fe4a491671ec6b", func := "flintstore/flintstorelaw.FilePlays", spec := "filePlays", unfollowed := true, recurses := true, apart := false }
def FilePlaysSaid : Prop := filePlaysRow.holds Try.pinned (OpenSpec.ofChange filePlaysSpec)

/-- ITS FALSE NEIGHBOUR: 'it returns false'. Refute it at one input. -/
def filePlaysWrong : ChangeSpec := { name := "filePlays", fn := fun _ => fun
  | [d] => { results := [.lit (.bool false)], args := [d] }
  | _ => none }
def FilePlaysWrongFalsely : Prop := filePlaysRow.holds Try.pinned (OpenSpec.ofChange filePlaysWrong)

/- THE SECOND FORM. 'bulk': how many values and letters a reading holds, each counted each time it is reached (what is shared counts as often as it is met; a slice's spare places count too). A statement '..UptoSaid' is the law's where the arguments, and the package variables that the reading takes, are together of bulk at most 1048576: NARROWER than '..Said'. Prove '..Said' where nothing that the law and all that it calls make is longer than what came in: it says more and counts as full. Else prove '..UptoSaid'. A law counts once. -/
mutual
def uptoBulk {H : Type} : DataW H → Nat
  | .lit (.string bytes) => bytes.length + 1
  | .lit _ => 1
  | .nil => 1
  | .ptr d => uptoBulk d + 1
  | .slice elems spare => uptoBulkAll elems + uptoBulkAll spare + 1
  | .agg parts => uptoBulkAll parts + 1
  | .iface _ d => uptoBulk d + 1
  | .map entries => uptoBulkEntries entries + 1
  | .held _ => 1
def uptoBulkAll {H : Type} : List (DataW H) → Nat
  | [] => 0
  | d :: r => uptoBulk d + uptoBulkAll r
def uptoBulkEntries {H : Type} : List (Lit × DataW H) → Nat
  | [] => 0
  | x :: r => uptoBulkEntry x + uptoBulkEntries r
def uptoBulkEntry {H : Type} : Lit × DataW H → Nat
  | (.string bytes, d) => bytes.length + uptoBulk d + 1
  | (_, d) => uptoBulk d + 1
 end
def uptoSmall : (H : Type) → List (DataW H) → Bool := fun _ ds => decide (uptoBulkAll ds ≤ 1048576)
def OpenSpec.upto (s : _root_.Go.ChangeSpec) : _root_.Go.OpenSpec := { _root_.Go.OpenSpec.ofChange s with cond := some uptoSmall }

/-- 'flintstorelaw.NandSteps', WHERE WHAT IT READS IS OF BULK AT MOST 1048576: true; the input reads as it did. -/
def nandStepsUptoRow : OpenClaim := { program := "ytmbkonhclniolaa", sum := "c4d9187ee01dc5330e7db3b197be885e5ce7039ab9ab33a397fe4a491671ec6b", func := "flintstore/flintstorelaw.NandSteps", spec := "nandSteps", apart := false, narrowed := true }
def NandStepsUptoSaid : Prop := nandStepsUptoRow.holds Try.pinned (OpenSpec.upto nandStepsSpec)

/-- 'flintstorelaw.NandPlays', WHERE WHAT IT READS IS OF BULK AT MOST 1048576: true; the input reads as it did. -/
def nandPlaysUptoRow : OpenClaim := { program := "ytmbkonhclniolaa", sum := "c4d9187ee01dc5330e7db3b197be885e5ce7039ab9ab33a397fe4a491671ec6b", func := "flintstore/flintstorelaw.NandPlays", spec := "nandPlays", apart := false, narrowed := true }
def NandPlaysUptoSaid : Prop := nandPlaysUptoRow.holds Try.pinned (OpenSpec.upto nandPlaysSpec)

/-- 'flintstorelaw.DedupPlays', WHERE WHAT IT READS IS OF BULK AT MOST 1048576: true; the input reads as it did. -/
def dedupPlaysUptoRow : OpenClaim := { program := "ytmbkonhclniolaa", sum := "c4d9187ee01dc5330e7db3b197be885e5ce7039ab9ab33a397fe4a491671ec6b", func := "flintstore/flintstorelaw.DedupPlays", spec := "dedupPlays", apart := false, narrowed := true }
def DedupPlaysUptoSaid : Prop := dedupPlaysUptoRow.holds Try.pinned (OpenSpec.upto dedupPlaysSpec)

/-- 'flintstorelaw.RunsCut', WHERE WHAT IT READS IS OF BULK AT MOST 1048576: true; the input reads as it did. -/
def runsCutUptoRow : OpenClaim := { program := "ytmbkonhclniolaa", sum := "c4d9187ee01dc5330e7db3b197be885e5ce7039ab9ab33a397fe4a491671ec6b", func := "flintstore/flintstorelaw.RunsCut", spec := "runsCut", apart := false, narrowed := true }
def RunsCutUptoSaid : Prop := runsCutUptoRow.holds Try.pinned (OpenSpec.upto runsCutSpec)

/-- 'flintstorelaw.CachePlays', WHERE WHAT IT READS IS OF BULK AT MOST 1048576: true; the input reads as it did. -/
def cachePlaysUptoRow : OpenClaim := { program := "ytmbkonhclniolaa", sum := "c4d9187ee01dc5330e7db3b197be885e5ce7039ab9ab33a397fe4a491671ec6b", func := "flintstore/flintstorelaw.CachePlays", spec := "cachePlays", unfollowed := true, recurses := true, apart := false, narrowed := true }
def CachePlaysUptoSaid : Prop := cachePlaysUptoRow.holds Try.pinned (OpenSpec.upto cachePlaysSpec)

/-- 'flintstorelaw.FilePlays', WHERE WHAT IT READS IS OF BULK AT MOST 1048576: true; the input reads as it did. -/
def filePlaysUptoRow : OpenClaim := { program := "ytmbkonhclniolaa", sum := "c4d9187ee01dc5330e7db3b197be885e5ce7039ab9ab33a397fe4a491671ec6b", func := "flintstore/flintstorelaw.FilePlays", spec := "filePlays", unfollowed := true, recurses := true, apart := false, narrowed := true }
def FilePlaysUptoSaid : Prop := filePlaysUptoRow.holds Try.pinned (OpenSpec.upto filePlaysSpec)

end Rows
end Go.Proofs.Ytmbkonhclniolaa
