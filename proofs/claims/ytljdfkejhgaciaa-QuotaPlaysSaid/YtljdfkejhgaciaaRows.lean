/-
  No cell of these rows narrows 'for every input' (looked for: loops, veiled, ifaces, maps, wideKeys, modest, calm, conditions, laid).
  DERIVED. THE GIVEN ROWS OF THIS SEAT. 6 by the template 'for every input the law returns true; each argument reads behind the call as it read before'; 0 by the template 'total and deterministic' (their statements: YtljdfkejhgaciaaTotals.lean).
  GIVEN WITH THE SEED: the statements are not yours to turn. If you find one false, say at which input.
  Laid BY PROGRAM, IN A SANDBOX (cutbox-rows.mjs): the forced cells as the released guide's own fill.sh prints them over the translation 5a303ac8d902abf3… (all of the seat's roots in one cut). By AI agents, Wed Nov 11 2026. No macro, syntax, notation, axiom, sorry.
-/
import Derived.Test.YtljdfkejhgaciaaChecked
import GoSem.Claim
import GoSem.ClaimJoined
import GoSem.ClaimMapViews
import Derived.JoinedTies
import Derived.KernelRfl
namespace Go.Proofs.Ytljdfkejhgaciaa
/- THE CELL 'sum', in the pinned program and in every row, IS THE sha256 OF THE DUMP (.gsa) THAT YtljdfkejhgaciaaProg.lean LOADS. Nothing in Lean hashes anything: it is a label: what it is worth is what the hold of that sum in a sandbox is worth. -/
noncomputable def Try.pinned : Pinned := { name := "ytljdfkejhgaciaa", sum := "5a303ac8d902abf3312a32865424d109563cc372e0628d628348fe4c4cd3cd47", checked := Try.checked }
namespace Rows
def none {H : Type} : Left H := { results := [], args := [] }

/-- 'flintstorelaw.RunsFind': WHATEVER THE INPUT: true; the input reads as it did. -/
def runsFindSpec : ChangeSpec := { name := "runsFind", fn := fun _ => fun
  | [d1, d2] => { results := [.lit (.bool true)], args := [d1, d2] }
  | _ => none }
def runsFindRow : OpenClaim := { program := "ytljdfkejhgaciaa", sum := "5a303ac8d902abf3312a32865424d109563cc372e0628d628348fe4c4cd3cd47", func := "flintstore/flintstorelaw.RunsFind", spec := "runsFind", apart := false }
def RunsFindSaid : Prop := runsFindRow.holds Try.pinned (OpenSpec.ofChange runsFindSpec)

/-- ITS FALSE NEIGHBOUR: 'it returns false'. Refute it at one input. -/
def runsFindWrong : ChangeSpec := { name := "runsFind", fn := fun _ => fun
  | [d1, d2] => { results := [.lit (.bool false)], args := [d1, d2] }
  | _ => none }
def RunsFindWrongFalsely : Prop := runsFindRow.holds Try.pinned (OpenSpec.ofChange runsFindWrong)

/-- 'flintstorelaw.RunsCut': WHATEVER THE INPUT: true; the input reads as it did. -/
def runsCutSpec : ChangeSpec := { name := "runsCut", fn := fun _ => fun
  | [d1, d2, d3] => { results := [.lit (.bool true)], args := [d1, d2, d3] }
  | _ => none }
def runsCutRow : OpenClaim := { program := "ytljdfkejhgaciaa", sum := "5a303ac8d902abf3312a32865424d109563cc372e0628d628348fe4c4cd3cd47", func := "flintstore/flintstorelaw.RunsCut", spec := "runsCut", apart := false }
def RunsCutSaid : Prop := runsCutRow.holds Try.pinned (OpenSpec.ofChange runsCutSpec)

/-- ITS FALSE NEIGHBOUR: 'it returns false'. Refute it at one input. -/
def runsCutWrong : ChangeSpec := { name := "runsCut", fn := fun _ => fun
  | [d1, d2, d3] => { results := [.lit (.bool false)], args := [d1, d2, d3] }
  | _ => none }
def RunsCutWrongFalsely : Prop := runsCutRow.holds Try.pinned (OpenSpec.ofChange runsCutWrong)

/-- 'flintstorelaw.MountTells': WHATEVER THE INPUT: true; the input reads as it did. -/
def mountTellsSpec : ChangeSpec := { name := "mountTells", fn := fun _ => fun
  | [d1, d2, d3] => { results := [.lit (.bool true)], args := [d1, d2, d3] }
  | _ => none }
def mountTellsRow : OpenClaim := { program := "ytljdfkejhgaciaa", sum := "5a303ac8d902abf3312a32865424d109563cc372e0628d628348fe4c4cd3cd47", func := "flintstore/flintstorelaw.MountTells", spec := "mountTells", unfollowed := true, recurses := true, apart := false }
def MountTellsSaid : Prop := mountTellsRow.holds Try.pinned (OpenSpec.ofChange mountTellsSpec)

/-- ITS FALSE NEIGHBOUR: 'it returns false'. Refute it at one input. -/
def mountTellsWrong : ChangeSpec := { name := "mountTells", fn := fun _ => fun
  | [d1, d2, d3] => { results := [.lit (.bool false)], args := [d1, d2, d3] }
  | _ => none }
def MountTellsWrongFalsely : Prop := mountTellsRow.holds Try.pinned (OpenSpec.ofChange mountTellsWrong)

/-- 'flintstorelaw.TwinTells': WHATEVER THE INPUT: true; the input reads as it did. -/
def twinTellsSpec : ChangeSpec := { name := "twinTells", fn := fun _ => fun
  | [d1, d2, d3] => { results := [.lit (.bool true)], args := [d1, d2, d3] }
  | _ => none }
def twinTellsRow : OpenClaim := { program := "ytljdfkejhgaciaa", sum := "5a303ac8d902abf3312a32865424d109563cc372e0628d628348fe4c4cd3cd47", func := "flintstore/flintstorelaw.TwinTells", spec := "twinTells", apart := false }
def TwinTellsSaid : Prop := twinTellsRow.holds Try.pinned (OpenSpec.ofChange twinTellsSpec)

/-- ITS FALSE NEIGHBOUR: 'it returns false'. Refute it at one input. -/
def twinTellsWrong : ChangeSpec := { name := "twinTells", fn := fun _ => fun
  | [d1, d2, d3] => { results := [.lit (.bool false)], args := [d1, d2, d3] }
  | _ => none }
def TwinTellsWrongFalsely : Prop := twinTellsRow.holds Try.pinned (OpenSpec.ofChange twinTellsWrong)

/-- 'flintstoretop.Names': WHATEVER THE INPUT: true; the input reads as it did. -/
def namesSpec : ChangeSpec := { name := "names", fn := fun _ => fun
  | [] => { results := [.lit (.bool true)], args := [] }
  | _ => none }
def namesRow : OpenClaim := { program := "ytljdfkejhgaciaa", sum := "5a303ac8d902abf3312a32865424d109563cc372e0628d628348fe4c4cd3cd47", func := "flintstore/flintstoretop.Names", spec := "names", apart := false }
def NamesSaid : Prop := namesRow.holds Try.pinned (OpenSpec.ofChange namesSpec)

/-- ITS FALSE NEIGHBOUR: 'it returns false'. Refute it at one input. -/
def namesWrong : ChangeSpec := { name := "names", fn := fun _ => fun
  | [] => { results := [.lit (.bool false)], args := [] }
  | _ => none }
def NamesWrongFalsely : Prop := namesRow.holds Try.pinned (OpenSpec.ofChange namesWrong)

/-- 'flintstorelaw.QuotaPlays': WHATEVER THE INPUT: true; the input reads as it did. -/
def quotaPlaysSpec : ChangeSpec := { name := "quotaPlays", fn := fun _ => fun
  | [d] => { results := [.lit (.bool true)], args := [d] }
  | _ => none }
def quotaPlaysRow : OpenClaim := { program := "ytljdfkejhgaciaa", sum := "5a303ac8d902abf3312a32865424d109563cc372e0628d628348fe4c4cd3cd47", func := "flintstore/flintstorelaw.QuotaPlays", spec := "quotaPlays", unfollowed := true, recurses := true, apart := false }
def QuotaPlaysSaid : Prop := quotaPlaysRow.holds Try.pinned (OpenSpec.ofChange quotaPlaysSpec)

/-- ITS FALSE NEIGHBOUR: 'it returns false'. Refute it at one input. -/
def quotaPlaysWrong : ChangeSpec := { name := "quotaPlays", fn := fun _ => fun
  | [d] => { results := [.lit (.bool false)], args := [d] }
  | _ => none }
def QuotaPlaysWrongFalsely : Prop := quotaPlaysRow.holds Try.pinned (OpenSpec.ofChange quotaPlaysWrong)

/- THE SECOND FORM. 'bulk': how many values and letters a reading holds, each counted each time it is reached (what is shared counts as often as it is met; a slice's spare places count too). A statement '..UptoSaid' is the law's where the arguments, and the package variables that the reading takes, are together of bulk at most 1048576: NARROWER than '..Said'. Prove '..Said' where nothing that the law and all that it calls make is longer than what came in: it says more and counts as full. Else prove '..UptoSaid'. A law counts once. -/
mutual
def uptoBulk {H : Type} : DataW H → Nat
  | .lit (.string bytes) => bytes.length + 1
  | .lit _ => 1
  | .nil => 1
  | .ptr d => uptoBulk d + 1
  | .slice elems spare => uptoBulkAll elems + uptoBulkAll spare + 1
  | .agg parts => uptoBulkAll parts + 1
  | .iface _ d => uptoBulk d + 1
  | .map entries => uptoBulkEntries entries + 1
  | .held _ => 1
def uptoBulkAll {H : Type} : List (DataW H) → Nat
  | [] => 0
  | d :: r => uptoBulk d + uptoBulkAll r
def uptoBulkEntries {H : Type} : List (Lit × DataW H) → Nat
  | [] => 0
  | x :: r => uptoBulkEntry x + uptoBulkEntries r
def uptoBulkEntry {H : Type} : Lit × DataW H → Nat
  | (.string bytes, d) => bytes.length + uptoBulk d + 1
  | (_, d) => uptoBulk d + 1
 end
def uptoSmall : (H : Type) → List (DataW H) → Bool := fun _ ds => decide (uptoBulkAll ds ≤ 1048576)
def OpenSpec.upto (s : _root_.Go.ChangeSpec) : _root_.Go.OpenSpec := { _root_.Go.OpenSpec.ofChange s with cond := some uptoSmall }

/-- 'flintstorelaw.RunsFind', WHERE WHAT IT READS IS OF BULK AT MOST 1048576: true; the input reads as it did. -/
def runsFindUptoRow : OpenClaim := { program := "ytljdfkejhgaciaa", sum := "5a303ac8d902abf3312a32865424d109563cc372e0628d628348fe4c4cd3cd47", func := "flintstore/flintstorelaw.RunsFind", spec := "runsFind", apart := false, narrowed := true }
def RunsFindUptoSaid : Prop := runsFindUptoRow.holds Try.pinned (OpenSpec.upto runsFindSpec)

/-- 'flintstorelaw.RunsCut', WHERE WHAT IT READS IS OF BULK AT MOST 1048576: true; the input reads as it did. -/
def runsCutUptoRow : OpenClaim := { program := "ytljdfkejhgaciaa", sum := "5a303ac8d902abf3312a32865424d109563cc372e0628d628348fe4c4cd3cd47", func := "flintstore/flintstorelaw.RunsCut", spec := "runsCut", apart := false, narrowed := true }
def RunsCutUptoSaid : Prop := runsCutUptoRow.holds Try.pinned (OpenSpec.upto runsCutSpec)

/-- 'flintstorelaw.MountTells', WHERE WHAT IT READS IS OF BULK AT MOST 1048576: true; the input reads as it did. -/
def mountTellsUptoRow : OpenClaim := { program := "ytljdfkejhgaciaa", sum := "5a303ac8d902abf3312a32865424d109563cc372e0628d628348fe4c4cd3cd47", func := "flintstore/flintstorelaw.MountTells", spec := "mountTells", unfollowed := true, recurses := true, apart := false, narrowed := true }
def MountTellsUptoSaid : Prop := mountTellsUptoRow.holds Try.pinned (OpenSpec.upto mountTellsSpec)

/-- 'flintstorelaw.TwinTells', WHERE WHAT IT READS IS OF BULK AT MOST 1048576: true; the input reads as it did. -/
def twinTellsUptoRow : OpenClaim := { program := "ytljdfkejhgaciaa", sum := "5a303ac8d902abf3312a32865424d109563cc372e0628d628348fe4c4cd3cd47", func := "flintstore/flintstorelaw.TwinTells", spec := "twinTells", apart := false, narrowed := true }
def TwinTellsUptoSaid : Prop := twinTellsUptoRow.holds Try.pinned (OpenSpec.upto twinTellsSpec)

/-- 'flintstoretop.Names', WHERE WHAT IT READS IS OF BULK AT MOST 1048576: true; the input reads as it did. -/
def namesUptoRow : OpenClaim := { program := "ytljdfkejhgaciaa", sum := "5a303ac8d902abf3312a32865424d109563cc372e0628d628348fe4c4cd3cd47", func := "flintstore/flintstoretop.Names", spec := "names", apart := false, narrowed := true }
def NamesUptoSaid : Prop := namesUptoRow.holds Try.pinned (OpenSpec.upto namesSpec)

/-- 'flintstorelaw.QuotaPlays', WHERE WHAT IT READS IS OF BULK AT MOST 1048576: true; the input reads as it did. -/
def quotaPlaysUptoRow : OpenClaim := { program := "ytljdfkejhgaciaa", sum := "5a303ac8d902abf3312a32865424d109563cc372e0628d628348fe4c4cd3cd47", func := "flintstore/flintstorelaw.QuotaPlays", spec := "quotaPlays", unfollowed := true, recurses := true, apart := false, narrowed := true }
def QuotaPlaysUptoSaid : Prop := quotaPlaysUptoRow.holds Try.pinned (OpenSpec.upto quotaPlaysSpec)

end Rows
end Go.Proofs.Ytljdfkejhgaciaa
