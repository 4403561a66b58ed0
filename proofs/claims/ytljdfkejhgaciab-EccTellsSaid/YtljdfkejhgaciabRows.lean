/-
  No cell of these rows narrows 'for every input' (looked for: loops, veiled, ifaces, maps, wideKeys, modest, calm, conditions, laid).
  DERIVED. THE GIVEN ROWS OF THIS SEAT. 6 by the template 'for every input the law returns true; each argument reads behind the call as it read before'; 0 by the template 'total and deterministic' (their statements: YtljdfkejhgaciabTotals.lean).
  GIVEN WITH THE SEED: the statements are not yours to turn. If you find one false, say at which input.
  Laid BY PROGRAM, IN A SANDBOX (cutbox-rows.mjs): the forced cells as the released guide's own fill.sh prints them over the translation 888a7b5714a23083… (all of the seat's roots in one cut). By AI agents, Wed Nov 11 2026. No macro, syntax, notation, axiom, sorry.
-/
import Derived.Test.YtljdfkejhgaciabChecked
import GoSem.Claim
import GoSem.ClaimJoined
import GoSem.ClaimMapViews
import Derived.JoinedTies
import Derived.KernelRfl
namespace Go.Proofs.Ytljdfkejhgaciab
/- THE CELL 'sum', in the pinned program and in every row, IS THE sha256 OF THE DUMP (.gsa) THAT YtljdfkejhgaciabProg.lean LOADS. Nothing in Lean hashes anything: it is a label: what it is worth is what the hold of that sum in a sandbox is worth. -/
noncomputable def Try.pinned : Pinned := { name := "ytljdfkejhgaciab", sum := "888a7b5714a23083d04d6965ef57ddcd38127cb708d3649747bc68a71f0b074f", checked := Try.checked }
namespace Rows
def none {H : Type} : Left H := { results := [], args := [] }

/-- 'flintstorelaw.CrcTells': WHATEVER THE INPUT: true; the input reads as it did. -/
def crcTellsSpec : ChangeSpec := { name := "crcTells", fn := fun _ => fun
  | [d1, d2] => { results := [.lit (.bool true)], args := [d1, d2] }
  | _ => none }
def crcTellsRow : OpenClaim := { program := "ytljdfkejhgaciab", sum := "888a7b5714a23083d04d6965ef57ddcd38127cb708d3649747bc68a71f0b074f", func := "flintstore/flintstorelaw.CrcTells", spec := "crcTells", apart := false }
def CrcTellsSaid : Prop := crcTellsRow.holds Try.pinned (OpenSpec.ofChange crcTellsSpec)

/-- ITS FALSE NEIGHBOUR: 'it returns false'. Refute it at one input. -/
def crcTellsWrong : ChangeSpec := { name := "crcTells", fn := fun _ => fun
  | [d1, d2] => { results := [.lit (.bool false)], args := [d1, d2] }
  | _ => none }
def CrcTellsWrongFalsely : Prop := crcTellsRow.holds Try.pinned (OpenSpec.ofChange crcTellsWrong)

/-- 'flintstorelaw.CellTears': WHATEVER THE INPUT: true; the input reads as it did. -/
def cellTearsSpec : ChangeSpec := { name := "cellTears", fn := fun _ => fun
  | [d1, d2, d3] => { results := [.lit (.bool true)], args := [d1, d2, d3] }
  | _ => none }
def cellTearsRow : OpenClaim := { program := "ytljdfkejhgaciab", sum := "888a7b5714a23083d04d6965ef57ddcd38127cb708d3649747bc68a71f0b074f", func := "flintstore/flintstorelaw.CellTears", spec := "cellTears", apart := false }
def CellTearsSaid : Prop := cellTearsRow.holds Try.pinned (OpenSpec.ofChange cellTearsSpec)

/-- ITS FALSE NEIGHBOUR: 'it returns false'. Refute it at one input. -/
def cellTearsWrong : ChangeSpec := { name := "cellTears", fn := fun _ => fun
  | [d1, d2, d3] => { results := [.lit (.bool false)], args := [d1, d2, d3] }
  | _ => none }
def CellTearsWrongFalsely : Prop := cellTearsRow.holds Try.pinned (OpenSpec.ofChange cellTearsWrong)

/-- 'flintstorelaw.CellWrites': WHATEVER THE INPUT: true; the input reads as it did. -/
def cellWritesSpec : ChangeSpec := { name := "cellWrites", fn := fun _ => fun
  | [d1, d2, d3] => { results := [.lit (.bool true)], args := [d1, d2, d3] }
  | _ => none }
def cellWritesRow : OpenClaim := { program := "ytljdfkejhgaciab", sum := "888a7b5714a23083d04d6965ef57ddcd38127cb708d3649747bc68a71f0b074f", func := "flintstore/flintstorelaw.CellWrites", spec := "cellWrites", inPlace := ["internal/bytealg.MakeNoZero"], apart := false }
def CellWritesSaid : Prop := cellWritesRow.holds Try.pinned (OpenSpec.ofChange cellWritesSpec)

/-- ITS FALSE NEIGHBOUR: 'it returns false'. Refute it at one input. -/
def cellWritesWrong : ChangeSpec := { name := "cellWrites", fn := fun _ => fun
  | [d1, d2, d3] => { results := [.lit (.bool false)], args := [d1, d2, d3] }
  | _ => none }
def CellWritesWrongFalsely : Prop := cellWritesRow.holds Try.pinned (OpenSpec.ofChange cellWritesWrong)

/-- 'flintstorelaw.JournalFolds': WHATEVER THE INPUT: true; the input reads as it did. -/
def journalFoldsSpec : ChangeSpec := { name := "journalFolds", fn := fun _ => fun
  | [d] => { results := [.lit (.bool true)], args := [d] }
  | _ => none }
def journalFoldsRow : OpenClaim := { program := "ytljdfkejhgaciab", sum := "888a7b5714a23083d04d6965ef57ddcd38127cb708d3649747bc68a71f0b074f", func := "flintstore/flintstorelaw.JournalFolds", spec := "journalFolds", apart := false }
def JournalFoldsSaid : Prop := journalFoldsRow.holds Try.pinned (OpenSpec.ofChange journalFoldsSpec)

/-- ITS FALSE NEIGHBOUR: 'it returns false'. Refute it at one input. -/
def journalFoldsWrong : ChangeSpec := { name := "journalFolds", fn := fun _ => fun
  | [d] => { results := [.lit (.bool false)], args := [d] }
  | _ => none }
def JournalFoldsWrongFalsely : Prop := journalFoldsRow.holds Try.pinned (OpenSpec.ofChange journalFoldsWrong)

/-- 'flintstorelaw.JournalTells': WHATEVER THE INPUT: true; the input reads as it did. -/
def journalTellsSpec : ChangeSpec := { name := "journalTells", fn := fun _ => fun
  | [d1, d2] => { results := [.lit (.bool true)], args := [d1, d2] }
  | _ => none }
def journalTellsRow : OpenClaim := { program := "ytljdfkejhgaciab", sum := "888a7b5714a23083d04d6965ef57ddcd38127cb708d3649747bc68a71f0b074f", func := "flintstore/flintstorelaw.JournalTells", spec := "journalTells", apart := false }
def JournalTellsSaid : Prop := journalTellsRow.holds Try.pinned (OpenSpec.ofChange journalTellsSpec)

/-- ITS FALSE NEIGHBOUR: 'it returns false'. Refute it at one input. -/
def journalTellsWrong : ChangeSpec := { name := "journalTells", fn := fun _ => fun
  | [d1, d2] => { results := [.lit (.bool false)], args := [d1, d2] }
  | _ => none }
def JournalTellsWrongFalsely : Prop := journalTellsRow.holds Try.pinned (OpenSpec.ofChange journalTellsWrong)

/-- 'flintstorelaw.EccTells': WHATEVER THE INPUT: true; the input reads as it did. -/
def eccTellsSpec : ChangeSpec := { name := "eccTells", fn := fun _ => fun
  | [d1, d2] => { results := [.lit (.bool true)], args := [d1, d2] }
  | _ => none }
def eccTellsRow : OpenClaim := { program := "ytljdfkejhgaciab", sum := "888a7b5714a23083d04d6965ef57ddcd38127cb708d3649747bc68a71f0b074f", func := "flintstore/flintstorelaw.EccTells", spec := "eccTells", apart := false }
def EccTellsSaid : Prop := eccTellsRow.holds Try.pinned (OpenSpec.ofChange eccTellsSpec)

/-- ITS FALSE NEIGHBOUR: 'it returns false'. Refute it at one input. -/
def eccTellsWrong : ChangeSpec := { name := "eccTells", fn := fun _ => fun
  | [d1, d2] => { results := [.lit (.bool false)], args := [d1, d2] }
  | _ => none }
def EccTellsWrongFalsely : Prop := eccTellsRow.holds Try.pinned (OpenSpec.ofChange eccTellsWrong)

/- THE SECOND FORM. 'bulk': how many values and letters a reading holds, each counted each time it is reached (what is shared counts as often as it is met; a slice's spare places count too). A statement '..UptoSaid' is the law's where the arguments, and the package variables that the reading takes, are together of bulk at most 1048576: NARROWER than '..Said'. Prove '..Said' where nothing that the law and all that it calls make is longer than what came in: it says more and counts as full. Else prove '..UptoSaid'. A law counts once. -/
mutual
def uptoBulk {H : Type} : DataW H → Nat
  | .lit (.string bytes) => bytes.length + 1
  | .lit _ => 1
  | .nil => 1
  | .ptr d => uptoBulk d + 1
  | .slice elems spare => uptoBulkAll elems + uptoBulkAll spare + 1
  | .agg parts => uptoBulkAll parts + 1
  | .iface _ d => uptoBulk d + 1
  | .map entries => uptoBulkEntries entries + 1
  | .held _ => 1
def uptoBulkAll {H : Type} : List (DataW H) → Nat
  | [] => 0
  | d :: r => uptoBulk d + uptoBulkAll r
def uptoBulkEntries {H : Type} : List (Lit × DataW H) → Nat
  | [] => 0
  | x :: r => uptoBulkEntry x + uptoBulkEntries r
def uptoBulkEntry {H : Type} : Lit × DataW H → Nat
  | (.string bytes, d) => bytes.length + uptoBulk d + 1
  | (_, d) => uptoBulk d + 1
 end
def uptoSmall : (H : Type) → List (DataW H) → Bool := fun _ ds => decide (uptoBulkAll ds ≤ 1048576)
def OpenSpec.upto (s : _root_.Go.ChangeSpec) : _root_.Go.OpenSpec := { _root_.Go.OpenSpec.ofChange s with cond := some uptoSmall }

/-- 'flintstorelaw.CrcTells', WHERE WHAT IT READS IS OF BULK AT MOST 1048576: true; the input reads as it did. -/
def crcTellsUptoRow : OpenClaim := { program := "ytljdfkejhgaciab", sum := "888a7b5714a23083d04d6965ef57ddcd38127cb708d3649747bc68a71f0b074f", func := "flintstore/flintstorelaw.CrcTells", spec := "crcTells", apart := false, narrowed := true }
def CrcTellsUptoSaid : Prop := crcTellsUptoRow.holds Try.pinned (OpenSpec.upto crcTellsSpec)

/-- 'flintstorelaw.CellTears', WHERE WHAT IT READS IS OF BULK AT MOST 1048576: true; the input reads as it did. -/
def cellTearsUptoRow : OpenClaim := { program := "ytljdfkejhgaciab", sum := "888a7b5714a23083d04d6965ef57ddcd38127cb708d3649747bc68a71f0b074f", func := "flintstore/flintstorelaw.CellTears", spec := "cellTears", apart := false, narrowed := true }
def CellTearsUptoSaid : Prop := cellTearsUptoRow.holds Try.pinned (OpenSpec.upto cellTearsSpec)

/-- 'flintstorelaw.CellWrites', WHERE WHAT IT READS IS OF BULK AT MOST 1048576: true; the input reads as it did. -/
def cellWritesUptoRow : OpenClaim := { program := "ytljdfkejhgaciab", sum := "888a7b5714a23083d04d6965ef57ddcd38127cb708d3649747bc68a71f0b074f", func := "flintstore/flintstorelaw.CellWrites", spec := "cellWrites", inPlace := ["internal/bytealg.MakeNoZero"], apart := false, narrowed := true }
def CellWritesUptoSaid : Prop := cellWritesUptoRow.holds Try.pinned (OpenSpec.upto cellWritesSpec)

/-- 'flintstorelaw.JournalFolds', WHERE WHAT IT READS IS OF BULK AT MOST 1048576: true; the input reads as it did. -/
def journalFoldsUptoRow : OpenClaim := { program := "ytljdfkejhgaciab", sum := "888a7b5714a23083d04d6965ef57ddcd38127cb708d3649747bc68a71f0b074f", func := "flintstore/flintstorelaw.JournalFolds", spec := "journalFolds", apart := false, narrowed := true }
def JournalFoldsUptoSaid : Prop := journalFoldsUptoRow.holds Try.pinned (OpenSpec.upto journalFoldsSpec)

/-- 'flintstorelaw.JournalTells', WHERE WHAT IT READS IS OF BULK AT MOST 1048576: true; the input reads as it did. -/
def journalTellsUptoRow : OpenClaim := { program := "ytljdfkejhgaciab", sum := "888a7b5714a23083d04d6965ef57ddcd38127cb708d3649747bc68a71f0b074f", func := "flintstore/flintstorelaw.JournalTells", spec := "journalTells", apart := false, narrowed := true }
def JournalTellsUptoSaid : Prop := journalTellsUptoRow.holds Try.pinned (OpenSpec.upto journalTellsSpec)

/-- 'flintstorelaw.EccTells', WHERE WHAT IT READS IS OF BULK AT MOST 1048576: true; the input reads as it did. -/
def eccTellsUptoRow : OpenClaim := { program := "ytljdfkejhgaciab", sum := "888a7b5714a23083d04d6965ef57ddcd38127cb708d3649747bc68a71f0b074f", func := "flintstore/flintstorelaw.EccTells", spec := "eccTells", apart := false, narrowed := true }
def EccTellsUptoSaid : Prop := eccTellsUptoRow.holds Try.pinned (OpenSpec.upto eccTellsSpec)

end Rows
end Go.Proofs.Ytljdfkejhgaciab
