/-
  No cell of these rows narrows 'for every input' (looked for: loops, veiled, ifaces, maps, wideKeys, modest, calm, conditions, laid).
  DERIVED. THE GIVEN ROWS OF THIS SEAT. 5 by the template 'for every input the law returns true; each argument reads behind the call as it read before'; 0 by the template 'total and deterministic' (their statements: YthehocmfpoglgaaTotals.lean).
  GIVEN WITH THE SEED: the statements are not yours to turn. If you find one false, say at which input.
  Laid BY PROGRAM, IN A SANDBOX (cutbox-rows.mjs): the forced cells as the released guide's own fill.sh prints them over the translation fe9bc2e62afcd5d3… (all of the seat's roots in one cut). By AI agents, Wed Nov 11 2026. No macro, syntax, notation, axiom, sorry.
-/
import Derived.Test.YthehocmfpoglgaaChecked
import GoSem.Claim
import GoSem.ClaimJoined
import GoSem.ClaimMapViews
import Derived.JoinedTies
import Derived.KernelRfl
namespace Go.Proofs.Ythehocmfpoglgaa
/- THE CELL 'sum', in the pinned program and in every row, IS THE sha256 OF THE DUMP (.gsa) THAT YthehocmfpoglgaaProg.lean LOADS. Nothing in Lean hashes anything: it is a label: what it is worth is what the hold of that sum in a sandbox is worth. -/
noncomputable def Try.pinned : Pinned := { name := "ythehocmfpoglgaa", sum := "fe9bc2e62afcd5d34b390b8284b86f95c3c32e2cac754af9e16385330229bab2", checked := Try.checked }
namespace Rows
def none {H : Type} : Left H := { results := [], args := [] }

/-- 'cellarerlaw08.ZipfmtIndexes': WHATEVER THE INPUT: true; the input reads as it did. -/
def zipfmtIndexesSpec : ChangeSpec := { name := "zipfmtIndexes", fn := fun _ => fun
  | [d1, d2] => { results := [.lit (.bool true)], args := [d1, d2] }
  | _ => none }
def zipfmtIndexesRow : OpenClaim := { program := "ythehocmfpoglgaa", sum := "fe9bc2e62afcd5d34b390b8284b86f95c3c32e2cac754af9e16385330229bab2", func := "cellarer/cellarerlaw08.ZipfmtIndexes", spec := "zipfmtIndexes", inPlace := ["internal/abi.NoEscape"], unfollowed := true, recurses := true, apart := false }
def ZipfmtIndexesSaid : Prop := zipfmtIndexesRow.holds Try.pinned (OpenSpec.ofChange zipfmtIndexesSpec)

/-- ITS FALSE NEIGHBOUR: 'it returns false'. Refute it at one input. -/
def zipfmtIndexesWrong : ChangeSpec := { name := "zipfmtIndexes", fn := fun _ => fun
  | [d1, d2] => { results := [.lit (.bool false)], args := [d1, d2] }
  | _ => none }
def ZipfmtIndexesWrongFalsely : Prop := zipfmtIndexesRow.holds Try.pinned (OpenSpec.ofChange zipfmtIndexesWrong)

/-- 'cellarerlaw08.ZipfmtPacked': WHATEVER THE INPUT: true; the input reads as it did. -/
def zipfmtPackedSpec : ChangeSpec := { name := "zipfmtPacked", fn := fun _ => fun
  | [d1, d2] => { results := [.lit (.bool true)], args := [d1, d2] }
  | _ => none }
def zipfmtPackedRow : OpenClaim := { program := "ythehocmfpoglgaa", sum := "fe9bc2e62afcd5d34b390b8284b86f95c3c32e2cac754af9e16385330229bab2", func := "cellarer/cellarerlaw08.ZipfmtPacked", spec := "zipfmtPacked", inPlace := ["internal/abi.NoEscape"], unfollowed := true, recurses := true, apart := false }
def ZipfmtPackedSaid : Prop := zipfmtPackedRow.holds Try.pinned (OpenSpec.ofChange zipfmtPackedSpec)

/-- ITS FALSE NEIGHBOUR: 'it returns false'. Refute it at one input. -/
def zipfmtPackedWrong : ChangeSpec := { name := "zipfmtPacked", fn := fun _ => fun
  | [d1, d2] => { results := [.lit (.bool false)], args := [d1, d2] }
  | _ => none }
def ZipfmtPackedWrongFalsely : Prop := zipfmtPackedRow.holds Try.pinned (OpenSpec.ofChange zipfmtPackedWrong)

/-- 'cellarerlaw08.ZipfmtSpoils': WHATEVER THE INPUT: true; the input reads as it did. -/
def zipfmtSpoilsSpec : ChangeSpec := { name := "zipfmtSpoils", fn := fun _ => fun
  | [d1, d2] => { results := [.lit (.bool true)], args := [d1, d2] }
  | _ => none }
def zipfmtSpoilsRow : OpenClaim := { program := "ythehocmfpoglgaa", sum := "fe9bc2e62afcd5d34b390b8284b86f95c3c32e2cac754af9e16385330229bab2", func := "cellarer/cellarerlaw08.ZipfmtSpoils", spec := "zipfmtSpoils", inPlace := ["internal/abi.NoEscape"], unfollowed := true, recurses := true, apart := false }
def ZipfmtSpoilsSaid : Prop := zipfmtSpoilsRow.holds Try.pinned (OpenSpec.ofChange zipfmtSpoilsSpec)

/-- ITS FALSE NEIGHBOUR: 'it returns false'. Refute it at one input. -/
def zipfmtSpoilsWrong : ChangeSpec := { name := "zipfmtSpoils", fn := fun _ => fun
  | [d1, d2] => { results := [.lit (.bool false)], args := [d1, d2] }
  | _ => none }
def ZipfmtSpoilsWrongFalsely : Prop := zipfmtSpoilsRow.holds Try.pinned (OpenSpec.ofChange zipfmtSpoilsWrong)

/-- 'cellarerlaw08.ZipfmtFull': WHATEVER THE INPUT: true; the input reads as it did. -/
def zipfmtFullSpec : ChangeSpec := { name := "zipfmtFull", fn := fun _ => fun
  | [d1, d2] => { results := [.lit (.bool true)], args := [d1, d2] }
  | _ => none }
def zipfmtFullRow : OpenClaim := { program := "ythehocmfpoglgaa", sum := "fe9bc2e62afcd5d34b390b8284b86f95c3c32e2cac754af9e16385330229bab2", func := "cellarer/cellarerlaw08.ZipfmtFull", spec := "zipfmtFull", inPlace := ["internal/abi.NoEscape"], unfollowed := true, recurses := true, apart := false }
def ZipfmtFullSaid : Prop := zipfmtFullRow.holds Try.pinned (OpenSpec.ofChange zipfmtFullSpec)

/-- ITS FALSE NEIGHBOUR: 'it returns false'. Refute it at one input. -/
def zipfmtFullWrong : ChangeSpec := { name := "zipfmtFull", fn := fun _ => fun
  | [d1, d2] => { results := [.lit (.bool false)], args := [d1, d2] }
  | _ => none }
def ZipfmtFullWrongFalsely : Prop := zipfmtFullRow.holds Try.pinned (OpenSpec.ofChange zipfmtFullWrong)

/-- 'cellarertop.CellarerArchives': WHATEVER THE INPUT: true; the input reads as it did. -/
def cellarerArchivesSpec : ChangeSpec := { name := "cellarerArchives", fn := fun _ => fun
  | [d1, d2] => { results := [.lit (.bool true)], args := [d1, d2] }
  | _ => none }
def cellarerArchivesRow : OpenClaim := { program := "ythehocmfpoglgaa", sum := "fe9bc2e62afcd5d34b390b8284b86f95c3c32e2cac754af9e16385330229bab2", func := "cellarer/cellarertop.CellarerArchives", spec := "cellarerArchives", inPlace := ["internal/abi.NoEscape"], unfollowed := true, recurses := true, apart := false }
def CellarerArchivesSaid : Prop := cellarerArchivesRow.holds Try.pinned (OpenSpec.ofChange cellarerArchivesSpec)

/-- ITS FALSE NEIGHBOUR: 'it returns false'. Refute it at one input. -/
def cellarerArchivesWrong : ChangeSpec := { name := "cellarerArchives", fn := fun _ => fun
  | [d1, d2] => { results := [.lit (.bool false)], args := [d1, d2] }
  | _ => none }
def CellarerArchivesWrongFalsely : Prop := cellarerArchivesRow.holds Try.pinned (OpenSpec.ofChange cellarerArchivesWrong)

/- THE SECOND FORM. 'bulk': how many values and letters a reading holds, each counted each time it is reached (what is shared counts as often as it is met; a slice's spare places count too). A statement '..UptoSaid' is the law's where the arguments, and the package variables that the reading takes, are together of bulk at most 1048576: NARROWER than '..Said'. Prove '..Said' where nothing that the law and all that it calls make is longer than what came in: it says more and counts as full. Else prove '..UptoSaid'. A law counts once. -/
mutual
def uptoBulk {H : Type} : DataW H → Nat
  | .lit (.string bytes) => bytes.length + 1
  | .lit _ => 1
  | .nil => 1
  | .ptr d => uptoBulk d + 1
  | .slice elems spare => uptoBulkAll elems + uptoBulkAll spare + 1
  | .agg parts => uptoBulkAll parts + 1
  | .iface _ d => uptoBulk d + 1
  | .map entries => uptoBulkEntries entries + 1
  | .held _ => 1
def uptoBulkAll {H : Type} : List (DataW H) → Nat
  | [] => 0
  | d :: r => uptoBulk d + uptoBulkAll r
def uptoBulkEntries {H : Type} : List (Lit × DataW H) → Nat
  | [] => 0
  | x :: r => uptoBulkEntry x + uptoBulkEntries r
def uptoBulkEntry {H : Type} : Lit × DataW H → Nat
  | (.string bytes, d) => bytes.length + uptoBulk d + 1
  | (_, d) => uptoBulk d + 1
 end
def uptoSmall : (H : Type) → List (DataW H) → Bool := fun _ ds => decide (uptoBulkAll ds ≤ 1048576)
def OpenSpec.upto (s : _root_.Go.ChangeSpec) : _root_.Go.OpenSpec := { _root_.Go.OpenSpec.ofChange s with cond := some uptoSmall }

/-- 'cellarerlaw08.ZipfmtIndexes', WHERE WHAT IT READS IS OF BULK AT MOST 1048576: true; the input reads as it did. -/
def zipfmtIndexesUptoRow : OpenClaim := { program := "ythehocmfpoglgaa", sum := "fe9bc2e62afcd5d34b390b8284b86f95c3c32e2cac754af9e16385330229bab2", func := "cellarer/cellarerlaw08.ZipfmtIndexes", spec := "zipfmtIndexes", inPlace := ["internal/abi.NoEscape"], unfollowed := true, recurses := true, apart := false, narrowed := true }
def ZipfmtIndexesUptoSaid : Prop := zipfmtIndexesUptoRow.holds Try.pinned (OpenSpec.upto zipfmtIndexesSpec)

/-- 'cellarerlaw08.ZipfmtPacked', WHERE WHAT IT READS IS OF BULK AT MOST 1048576: true; the input reads as it did. -/
def zipfmtPackedUptoRow : OpenClaim := { program := "ythehocmfpoglgaa", sum := "fe9bc2e62afcd5d34b390b8284b86f95c3c32e2cac754af9e16385330229bab2", func := "cellarer/cellarerlaw08.ZipfmtPacked", spec := "zipfmtPacked", inPlace := ["internal/abi.NoEscape"], unfollowed := true, recurses := true, apart := false, narrowed := true }
def ZipfmtPackedUptoSaid : Prop := zipfmtPackedUptoRow.holds Try.pinned (OpenSpec.upto zipfmtPackedSpec)

/-- 'cellarerlaw08.ZipfmtSpoils', WHERE WHAT IT READS IS OF BULK AT MOST 1048576: true; the input reads as it did. -/
def zipfmtSpoilsUptoRow : OpenClaim := { program := "ythehocmfpoglgaa", sum := "fe9bc2e62afcd5d34b390b8284b86f95c3c32e2cac754af9e16385330229bab2", func := "cellarer/cellarerlaw08.ZipfmtSpoils", spec := "zipfmtSpoils", inPlace := ["internal/abi.NoEscape"], unfollowed := true, recurses := true, apart := false, narrowed := true }
def ZipfmtSpoilsUptoSaid : Prop := zipfmtSpoilsUptoRow.holds Try.pinned (OpenSpec.upto zipfmtSpoilsSpec)

/-- 'cellarerlaw08.ZipfmtFull', WHERE WHAT IT READS IS OF BULK AT MOST 1048576: true; the input reads as it did. -/
def zipfmtFullUptoRow : OpenClaim := { program := "ythehocmfpoglgaa", sum := "fe9bc2e62afcd5d34b390b8284b86f95c3c32e2cac754af9e16385330229bab2", func := "cellarer/cellarerlaw08.ZipfmtFull", spec := "zipfmtFull", inPlace := ["internal/abi.NoEscape"], unfollowed := true, recurses := true, apart := false, narrowed := true }
def ZipfmtFullUptoSaid : Prop := zipfmtFullUptoRow.holds Try.pinned (OpenSpec.upto zipfmtFullSpec)

/-- 'cellarertop.CellarerArchives', WHERE WHAT IT READS IS OF BULK AT MOST 1048576: true; the input reads as it did. -/
def cellarerArchivesUptoRow : OpenClaim := { program := "ythehocmfpoglgaa", sum := "fe9bc2e62afcd5d34b390b8284b86f95c3c32e2cac754af9e16385330229bab2", func := "cellarer/cellarertop.CellarerArchives", spec := "cellarerArchives", inPlace := ["internal/abi.NoEscape"], unfollowed := true, recurses := true, apart := false, narrowed := true }
def CellarerArchivesUptoSaid : Prop := cellarerArchivesUptoRow.holds Try.pinned (OpenSpec.upto cellarerArchivesSpec)

end Rows
end Go.Proofs.Ythehocmfpoglgaa
