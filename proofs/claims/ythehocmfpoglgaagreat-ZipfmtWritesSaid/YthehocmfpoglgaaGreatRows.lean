/-
  No cell of these rows narrows 'for every input' (looked for: loops, veiled, ifaces, maps, wideKeys, modest, calm, conditions, laid).
  DERIVED. THE GIVEN ROWS OF THIS SEAT. 3 by the template 'for every input the law returns true; each argument reads behind the call as it read before'; 0 by the template 'total and deterministic' (their statements: YthehocmfpoglgaaGreatTotals.lean).
  GIVEN WITH THE SEED: the statements are not yours to turn. If you find one false, say at which input.
  Laid BY PROGRAM, IN A SANDBOX (cutbox-rows.mjs): the forced cells as the released guide's own fill.sh prints them over the translation eec4fd2f0b975152… (all of the seat's roots in one cut). By AI agents, Wed Nov 11 2026. No macro, syntax, notation, axiom, sorry.
-/
import Derived.Test.YthehocmfpoglgaaGreatChecked
import GoSem.Claim
import GoSem.ClaimJoined
import GoSem.ClaimMapViews
import Derived.JoinedTies
import Derived.KernelRfl
namespace Go.Proofs.YthehocmfpoglgaaGreat
/- THE CELL 'sum', in the pinned program and in every row, IS THE sha256 OF THE DUMP (.gsa) THAT YthehocmfpoglgaaGreatProg.lean LOADS. Nothing in Lean hashes anything: it is a label: what it is worth is what the hold of that sum in a sandbox is worth. -/
noncomputable def Tryz.pinned : Pinned := { name := "ythehocmfpoglgaagreat", sum := "eec4fd2f0b9751527efc77f9f2ef7ee7cba4ec03cb44b4d017f0f010fdf1b6f2", checked := Tryz.checked }
namespace Rows
def none {H : Type} : Left H := { results := [], args := [] }

/-- 'cellarerlaw08.ZipfmtWrites': WHATEVER THE INPUT: true; the input reads as it did. -/
def zipfmtWritesSpec : ChangeSpec := { name := "zipfmtWrites", fn := fun _ => fun
  | [d1, d2] => { results := [.lit (.bool true)], args := [d1, d2] }
  | _ => none }
def zipfmtWritesRow : OpenClaim := { program := "ythehocmfpoglgaagreat", sum := "eec4fd2f0b9751527efc77f9f2ef7ee7cba4ec03cb44b4d017f0f010fdf1b6f2", func := "cellarer/cellarerlaw08.ZipfmtWrites", spec := "zipfmtWrites", inPlace := ["internal/abi.NoEscape"], unfollowed := true, recurses := true, apart := false }
def ZipfmtWritesSaid : Prop := zipfmtWritesRow.holds Tryz.pinned (OpenSpec.ofChange zipfmtWritesSpec)

/-- ITS FALSE NEIGHBOUR: 'it returns false'. Refute it at one input. -/
def zipfmtWritesWrong : ChangeSpec := { name := "zipfmtWrites", fn := fun _ => fun
  | [d1, d2] => { results := [.lit (.bool false)], args := [d1, d2] }
  | _ => none }
def ZipfmtWritesWrongFalsely : Prop := zipfmtWritesRow.holds Tryz.pinned (OpenSpec.ofChange zipfmtWritesWrong)

/-- 'cellarerlaw08.ZipfmtReads': WHATEVER THE INPUT: true; the input reads as it did. -/
def zipfmtReadsSpec : ChangeSpec := { name := "zipfmtReads", fn := fun _ => fun
  | [d1, d2] => { results := [.lit (.bool true)], args := [d1, d2] }
  | _ => none }
def zipfmtReadsRow : OpenClaim := { program := "ythehocmfpoglgaagreat", sum := "eec4fd2f0b9751527efc77f9f2ef7ee7cba4ec03cb44b4d017f0f010fdf1b6f2", func := "cellarer/cellarerlaw08.ZipfmtReads", spec := "zipfmtReads", inPlace := ["internal/abi.NoEscape"], unfollowed := true, recurses := true, apart := false }
def ZipfmtReadsSaid : Prop := zipfmtReadsRow.holds Tryz.pinned (OpenSpec.ofChange zipfmtReadsSpec)

/-- ITS FALSE NEIGHBOUR: 'it returns false'. Refute it at one input. -/
def zipfmtReadsWrong : ChangeSpec := { name := "zipfmtReads", fn := fun _ => fun
  | [d1, d2] => { results := [.lit (.bool false)], args := [d1, d2] }
  | _ => none }
def ZipfmtReadsWrongFalsely : Prop := zipfmtReadsRow.holds Tryz.pinned (OpenSpec.ofChange zipfmtReadsWrong)

/-- 'cellarerlaw08.ZipfmtHeads': WHATEVER THE INPUT: true; the input reads as it did. -/
def zipfmtHeadsSpec : ChangeSpec := { name := "zipfmtHeads", fn := fun _ => fun
  | [d1, d2] => { results := [.lit (.bool true)], args := [d1, d2] }
  | _ => none }
def zipfmtHeadsRow : OpenClaim := { program := "ythehocmfpoglgaagreat", sum := "eec4fd2f0b9751527efc77f9f2ef7ee7cba4ec03cb44b4d017f0f010fdf1b6f2", func := "cellarer/cellarerlaw08.ZipfmtHeads", spec := "zipfmtHeads", inPlace := ["internal/abi.NoEscape"], unfollowed := true, recurses := true, apart := false }
def ZipfmtHeadsSaid : Prop := zipfmtHeadsRow.holds Tryz.pinned (OpenSpec.ofChange zipfmtHeadsSpec)

/-- ITS FALSE NEIGHBOUR: 'it returns false'. Refute it at one input. -/
def zipfmtHeadsWrong : ChangeSpec := { name := "zipfmtHeads", fn := fun _ => fun
  | [d1, d2] => { results := [.lit (.bool false)], args := [d1, d2] }
  | _ => none }
def ZipfmtHeadsWrongFalsely : Prop := zipfmtHeadsRow.holds Tryz.pinned (OpenSpec.ofChange zipfmtHeadsWrong)

/- THE SECOND FORM. 'bulk': how many values and letters a reading holds, each counted each time it is reached (what is shared counts as often as it is met; a slice's spare places count too). A statement '..UptoSaid' is the law's where the arguments, and the package variables that the reading takes, are together of bulk at most 1048576: NARROWER than '..Said'. Prove '..Said' where nothing that the law and all that it calls make is longer than what came in: it says more and counts as full. Else prove '..UptoSaid'. A law counts once. -/
mutual
def uptoBulk {H : Type} : DataW H → Nat
  | .lit (.string bytes) => bytes.length + 1
  | .lit _ => 1
  | .nil => 1
  | .ptr d => uptoBulk d + 1
  | .slice elems spare => uptoBulkAll elems + uptoBulkAll spare + 1
  | .agg parts => uptoBulkAll parts + 1
  | .iface _ d => uptoBulk d + 1
  | .map entries => uptoBulkEntries entries + 1
  | .held _ => 1
def uptoBulkAll {H : Type} : List (DataW H) → Nat
  | [] => 0
  | d :: r => uptoBulk d + uptoBulkAll r
def uptoBulkEntries {H : Type} : List (Lit × DataW H) → Nat
  | [] => 0
  | x :: r => uptoBulkEntry x + uptoBulkEntries r
def uptoBulkEntry {H : Type} : Lit × DataW H → Nat
  | (.string bytes, d) => bytes.length + uptoBulk d + 1
  | (_, d) => uptoBulk d + 1
 end
def uptoSmall : (H : Type) → List (DataW H) → Bool := fun _ ds => decide (uptoBulkAll ds ≤ 1048576)
def OpenSpec.upto (s : _root_.Go.ChangeSpec) : _root_.Go.OpenSpec := { _root_.Go.OpenSpec.ofChange s with cond := some uptoSmall }

/-- 'cellarerlaw08.ZipfmtWrites', WHERE WHAT IT READS IS OF BULK AT MOST 1048576: true; the input reads as it did. -/
def zipfmtWritesUptoRow : OpenClaim := { program := "ythehocmfpoglgaagreat", sum := "eec4fd2f0b9751527efc77f9f2ef7ee7cba4ec03cb44b4d017f0f010fdf1b6f2", func := "cellarer/cellarerlaw08.ZipfmtWrites", spec := "zipfmtWrites", inPlace := ["internal/abi.NoEscape"], unfollowed := true, recurses := true, apart := false, narrowed := true }
def ZipfmtWritesUptoSaid : Prop := zipfmtWritesUptoRow.holds Tryz.pinned (OpenSpec.upto zipfmtWritesSpec)

/-- 'cellarerlaw08.ZipfmtReads', WHERE WHAT IT READS IS OF BULK AT MOST 1048576: true; the input reads as it did. -/
def zipfmtReadsUptoRow : OpenClaim := { program := "ythehocmfpoglgaagreat", sum := "eec4fd2f0b9751527efc77f9f2ef7ee7cba4ec03cb44b4d017f0f010fdf1b6f2", func := "cellarer/cellarerlaw08.ZipfmtReads", spec := "zipfmtReads", inPlace := ["internal/abi.NoEscape"], unfollowed := true, recurses := true, apart := false, narrowed := true }
def ZipfmtReadsUptoSaid : Prop := zipfmtReadsUptoRow.holds Tryz.pinned (OpenSpec.upto zipfmtReadsSpec)

/-- 'cellarerlaw08.ZipfmtHeads', WHERE WHAT IT READS IS OF BULK AT MOST 1048576: true; the input reads as it did. -/
def zipfmtHeadsUptoRow : OpenClaim := { program := "ythehocmfpoglgaagreat", sum := "eec4fd2f0b9751527efc77f9f2ef7ee7cba4ec03cb44b4d017f0f010fdf1b6f2", func := "cellarer/cellarerlaw08.ZipfmtHeads", spec := "zipfmtHeads", inPlace := ["internal/abi.NoEscape"], unfollowed := true, recurses := true, apart := false, narrowed := true }
def ZipfmtHeadsUptoSaid : Prop := zipfmtHeadsUptoRow.holds Tryz.pinned (OpenSpec.upto zipfmtHeadsSpec)

end Rows
end Go.Proofs.YthehocmfpoglgaaGreat
