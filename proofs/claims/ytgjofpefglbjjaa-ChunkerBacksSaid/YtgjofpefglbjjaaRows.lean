/-
  No cell of these rows narrows 'for every input' (looked for: loops, veiled, ifaces, maps, wideKeys, modest, calm, conditions, laid).
  DERIVED. THE GIVEN ROWS OF THIS SEAT. 12 by the template 'for every input the law returns true; each argument reads behind the call as it read before'; 0 by the template 'total and deterministic' (their statements: YtgjofpefglbjjaaTotals.lean).
  GIVEN WITH THE SEED: the statements are not yours to turn. If you find one false, say at which input.
  Laid BY PROGRAM, IN A SANDBOX (cutbox-rows.mjs): the forced cells as the released guide's own fill.sh prints them over the translation 214899375a14a1ba… (all of the seat's roots in one cut). By AI agents, Wed Nov 11 2026. No macro, syntax, notation, axiom, sorry.
-/
import Derived.Test.YtgjofpefglbjjaaChecked
import GoSem.Claim
import GoSem.ClaimJoined
import GoSem.ClaimMapViews
import Derived.JoinedTies
import Derived.KernelRfl
namespace Go.Proofs.Ytgjofpefglbjjaa
/- THE CELL 'sum', in the pinned program and in every row, IS THE sha256 OF THE DUMP (.gsa) THAT YtgjofpefglbjjaaProg.lean LOADS. Nothing in Lean hashes anything: it is a label: what it is worth is what the hold of that sum in a sandbox is worth. -/
noncomputable def Try.pinned : Pinned := { name := "ytgjofpefglbjjaa", sum := "214899375a14a1ba9926c863d949007261c23fee732b032d2cd2bf70d6d445ae", checked := Try.checked }
namespace Rows
def none {H : Type} : Left H := { results := [], args := [] }

/-- 'cellarerlaw09.PolyRests': WHATEVER THE INPUT: true; the input reads as it did. -/
def polyRestsSpec : ChangeSpec := { name := "polyRests", fn := fun _ => fun
  | [d1, d2, d3] => { results := [.lit (.bool true)], args := [d1, d2, d3] }
  | _ => none }
def polyRestsRow : OpenClaim := { program := "ytgjofpefglbjjaa", sum := "214899375a14a1ba9926c863d949007261c23fee732b032d2cd2bf70d6d445ae", func := "cellarer/cellarerlaw09.PolyRests", spec := "polyRests", apart := false }
def PolyRestsSaid : Prop := polyRestsRow.holds Try.pinned (OpenSpec.ofChange polyRestsSpec)

/-- ITS FALSE NEIGHBOUR: 'it returns false'. Refute it at one input. -/
def polyRestsWrong : ChangeSpec := { name := "polyRests", fn := fun _ => fun
  | [d1, d2, d3] => { results := [.lit (.bool false)], args := [d1, d2, d3] }
  | _ => none }
def PolyRestsWrongFalsely : Prop := polyRestsRow.holds Try.pinned (OpenSpec.ofChange polyRestsWrong)

/-- 'cellarerlaw09.PolyDivides': WHATEVER THE INPUT: true; the input reads as it did. -/
def polyDividesSpec : ChangeSpec := { name := "polyDivides", fn := fun _ => fun
  | [d1, d2, d3, d4] => { results := [.lit (.bool true)], args := [d1, d2, d3, d4] }
  | _ => none }
def polyDividesRow : OpenClaim := { program := "ytgjofpefglbjjaa", sum := "214899375a14a1ba9926c863d949007261c23fee732b032d2cd2bf70d6d445ae", func := "cellarer/cellarerlaw09.PolyDivides", spec := "polyDivides", apart := false }
def PolyDividesSaid : Prop := polyDividesRow.holds Try.pinned (OpenSpec.ofChange polyDividesSpec)

/-- ITS FALSE NEIGHBOUR: 'it returns false'. Refute it at one input. -/
def polyDividesWrong : ChangeSpec := { name := "polyDivides", fn := fun _ => fun
  | [d1, d2, d3, d4] => { results := [.lit (.bool false)], args := [d1, d2, d3, d4] }
  | _ => none }
def PolyDividesWrongFalsely : Prop := polyDividesRow.holds Try.pinned (OpenSpec.ofChange polyDividesWrong)

/-- 'cellarertop.CellarerCuts': WHATEVER THE INPUT: true; the input reads as it did. -/
def cellarerCutsSpec : ChangeSpec := { name := "cellarerCuts", fn := fun _ => fun
  | [d1, d2] => { results := [.lit (.bool true)], args := [d1, d2] }
  | _ => none }
def cellarerCutsRow : OpenClaim := { program := "ytgjofpefglbjjaa", sum := "214899375a14a1ba9926c863d949007261c23fee732b032d2cd2bf70d6d445ae", func := "cellarer/cellarertop.CellarerCuts", spec := "cellarerCuts", apart := false }
def CellarerCutsSaid : Prop := cellarerCutsRow.holds Try.pinned (OpenSpec.ofChange cellarerCutsSpec)

/-- ITS FALSE NEIGHBOUR: 'it returns false'. Refute it at one input. -/
def cellarerCutsWrong : ChangeSpec := { name := "cellarerCuts", fn := fun _ => fun
  | [d1, d2] => { results := [.lit (.bool false)], args := [d1, d2] }
  | _ => none }
def CellarerCutsWrongFalsely : Prop := cellarerCutsRow.holds Try.pinned (OpenSpec.ofChange cellarerCutsWrong)

/-- 'cellarerlaw09.PolyRing': WHATEVER THE INPUT: true; the input reads as it did. -/
def polyRingSpec : ChangeSpec := { name := "polyRing", fn := fun _ => fun
  | [d1, d2, d3, d4, d5, d6] => { results := [.lit (.bool true)], args := [d1, d2, d3, d4, d5, d6] }
  | _ => none }
def polyRingRow : OpenClaim := { program := "ytgjofpefglbjjaa", sum := "214899375a14a1ba9926c863d949007261c23fee732b032d2cd2bf70d6d445ae", func := "cellarer/cellarerlaw09.PolyRing", spec := "polyRing", apart := false }
def PolyRingSaid : Prop := polyRingRow.holds Try.pinned (OpenSpec.ofChange polyRingSpec)

/-- ITS FALSE NEIGHBOUR: 'it returns false'. Refute it at one input. -/
def polyRingWrong : ChangeSpec := { name := "polyRing", fn := fun _ => fun
  | [d1, d2, d3, d4, d5, d6] => { results := [.lit (.bool false)], args := [d1, d2, d3, d4, d5, d6] }
  | _ => none }
def PolyRingWrongFalsely : Prop := polyRingRow.holds Try.pinned (OpenSpec.ofChange polyRingWrong)

/-- 'cellarerlaw09.PolyPrimes': WHATEVER THE INPUT: true; the input reads as it did. -/
def polyPrimesSpec : ChangeSpec := { name := "polyPrimes", fn := fun _ => fun
  | [d1, d2] => { results := [.lit (.bool true)], args := [d1, d2] }
  | _ => none }
def polyPrimesRow : OpenClaim := { program := "ytgjofpefglbjjaa", sum := "214899375a14a1ba9926c863d949007261c23fee732b032d2cd2bf70d6d445ae", func := "cellarer/cellarerlaw09.PolyPrimes", spec := "polyPrimes", apart := false }
def PolyPrimesSaid : Prop := polyPrimesRow.holds Try.pinned (OpenSpec.ofChange polyPrimesSpec)

/-- ITS FALSE NEIGHBOUR: 'it returns false'. Refute it at one input. -/
def polyPrimesWrong : ChangeSpec := { name := "polyPrimes", fn := fun _ => fun
  | [d1, d2] => { results := [.lit (.bool false)], args := [d1, d2] }
  | _ => none }
def PolyPrimesWrongFalsely : Prop := polyPrimesRow.holds Try.pinned (OpenSpec.ofChange polyPrimesWrong)

/-- 'cellarerlaw09.PolyTexts': WHATEVER THE INPUT: true; the input reads as it did. -/
def polyTextsSpec : ChangeSpec := { name := "polyTexts", fn := fun _ => fun
  | [d1, d2, d3, d4, d5] => { results := [.lit (.bool true)], args := [d1, d2, d3, d4, d5] }
  | _ => none }
def polyTextsRow : OpenClaim := { program := "ytgjofpefglbjjaa", sum := "214899375a14a1ba9926c863d949007261c23fee732b032d2cd2bf70d6d445ae", func := "cellarer/cellarerlaw09.PolyTexts", spec := "polyTexts", apart := false }
def PolyTextsSaid : Prop := polyTextsRow.holds Try.pinned (OpenSpec.ofChange polyTextsSpec)

/-- ITS FALSE NEIGHBOUR: 'it returns false'. Refute it at one input. -/
def polyTextsWrong : ChangeSpec := { name := "polyTexts", fn := fun _ => fun
  | [d1, d2, d3, d4, d5] => { results := [.lit (.bool false)], args := [d1, d2, d3, d4, d5] }
  | _ => none }
def PolyTextsWrongFalsely : Prop := polyTextsRow.holds Try.pinned (OpenSpec.ofChange polyTextsWrong)

/-- 'cellarerlaw10.ChunkerSplits': WHATEVER THE INPUT: true; the input reads as it did. -/
def chunkerSplitsSpec : ChangeSpec := { name := "chunkerSplits", fn := fun _ => fun
  | [d1, d2] => { results := [.lit (.bool true)], args := [d1, d2] }
  | _ => none }
def chunkerSplitsRow : OpenClaim := { program := "ytgjofpefglbjjaa", sum := "214899375a14a1ba9926c863d949007261c23fee732b032d2cd2bf70d6d445ae", func := "cellarer/cellarerlaw10.ChunkerSplits", spec := "chunkerSplits", apart := false }
def ChunkerSplitsSaid : Prop := chunkerSplitsRow.holds Try.pinned (OpenSpec.ofChange chunkerSplitsSpec)

/-- ITS FALSE NEIGHBOUR: 'it returns false'. Refute it at one input. -/
def chunkerSplitsWrong : ChangeSpec := { name := "chunkerSplits", fn := fun _ => fun
  | [d1, d2] => { results := [.lit (.bool false)], args := [d1, d2] }
  | _ => none }
def ChunkerSplitsWrongFalsely : Prop := chunkerSplitsRow.holds Try.pinned (OpenSpec.ofChange chunkerSplitsWrong)

/-- 'cellarerlaw10.ChunkerParts': WHATEVER THE INPUT: true; the input reads as it did. -/
def chunkerPartsSpec : ChangeSpec := { name := "chunkerParts", fn := fun _ => fun
  | [d1, d2] => { results := [.lit (.bool true)], args := [d1, d2] }
  | _ => none }
def chunkerPartsRow : OpenClaim := { program := "ytgjofpefglbjjaa", sum := "214899375a14a1ba9926c863d949007261c23fee732b032d2cd2bf70d6d445ae", func := "cellarer/cellarerlaw10.ChunkerParts", spec := "chunkerParts", apart := false }
def ChunkerPartsSaid : Prop := chunkerPartsRow.holds Try.pinned (OpenSpec.ofChange chunkerPartsSpec)

/-- ITS FALSE NEIGHBOUR: 'it returns false'. Refute it at one input. -/
def chunkerPartsWrong : ChangeSpec := { name := "chunkerParts", fn := fun _ => fun
  | [d1, d2] => { results := [.lit (.bool false)], args := [d1, d2] }
  | _ => none }
def ChunkerPartsWrongFalsely : Prop := chunkerPartsRow.holds Try.pinned (OpenSpec.ofChange chunkerPartsWrong)

/-- 'cellarerlaw10.ChunkerWhole': WHATEVER THE INPUT: true; the input reads as it did. -/
def chunkerWholeSpec : ChangeSpec := { name := "chunkerWhole", fn := fun _ => fun
  | [d1, d2] => { results := [.lit (.bool true)], args := [d1, d2] }
  | _ => none }
def chunkerWholeRow : OpenClaim := { program := "ytgjofpefglbjjaa", sum := "214899375a14a1ba9926c863d949007261c23fee732b032d2cd2bf70d6d445ae", func := "cellarer/cellarerlaw10.ChunkerWhole", spec := "chunkerWhole", apart := false }
def ChunkerWholeSaid : Prop := chunkerWholeRow.holds Try.pinned (OpenSpec.ofChange chunkerWholeSpec)

/-- ITS FALSE NEIGHBOUR: 'it returns false'. Refute it at one input. -/
def chunkerWholeWrong : ChangeSpec := { name := "chunkerWhole", fn := fun _ => fun
  | [d1, d2] => { results := [.lit (.bool false)], args := [d1, d2] }
  | _ => none }
def ChunkerWholeWrongFalsely : Prop := chunkerWholeRow.holds Try.pinned (OpenSpec.ofChange chunkerWholeWrong)

/-- 'cellarerlaw10.ChunkerFronts': WHATEVER THE INPUT: true; the input reads as it did. -/
def chunkerFrontsSpec : ChangeSpec := { name := "chunkerFronts", fn := fun _ => fun
  | [d1, d2, d3, d4] => { results := [.lit (.bool true)], args := [d1, d2, d3, d4] }
  | _ => none }
def chunkerFrontsRow : OpenClaim := { program := "ytgjofpefglbjjaa", sum := "214899375a14a1ba9926c863d949007261c23fee732b032d2cd2bf70d6d445ae", func := "cellarer/cellarerlaw10.ChunkerFronts", spec := "chunkerFronts", apart := false }
def ChunkerFrontsSaid : Prop := chunkerFrontsRow.holds Try.pinned (OpenSpec.ofChange chunkerFrontsSpec)

/-- ITS FALSE NEIGHBOUR: 'it returns false'. Refute it at one input. -/
def chunkerFrontsWrong : ChangeSpec := { name := "chunkerFronts", fn := fun _ => fun
  | [d1, d2, d3, d4] => { results := [.lit (.bool false)], args := [d1, d2, d3, d4] }
  | _ => none }
def ChunkerFrontsWrongFalsely : Prop := chunkerFrontsRow.holds Try.pinned (OpenSpec.ofChange chunkerFrontsWrong)

/-- 'cellarerlaw10.ChunkerBacks': WHATEVER THE INPUT: true; the input reads as it did. -/
def chunkerBacksSpec : ChangeSpec := { name := "chunkerBacks", fn := fun _ => fun
  | [d1, d2, d3, d4] => { results := [.lit (.bool true)], args := [d1, d2, d3, d4] }
  | _ => none }
def chunkerBacksRow : OpenClaim := { program := "ytgjofpefglbjjaa", sum := "214899375a14a1ba9926c863d949007261c23fee732b032d2cd2bf70d6d445ae", func := "cellarer/cellarerlaw10.ChunkerBacks", spec := "chunkerBacks", apart := false }
def ChunkerBacksSaid : Prop := chunkerBacksRow.holds Try.pinned (OpenSpec.ofChange chunkerBacksSpec)

/-- ITS FALSE NEIGHBOUR: 'it returns false'. Refute it at one input. -/
def chunkerBacksWrong : ChangeSpec := { name := "chunkerBacks", fn := fun _ => fun
  | [d1, d2, d3, d4] => { results := [.lit (.bool false)], args := [d1, d2, d3, d4] }
  | _ => none }
def ChunkerBacksWrongFalsely : Prop := chunkerBacksRow.holds Try.pinned (OpenSpec.ofChange chunkerBacksWrong)

/-- 'cellarerlaw10.ChunkerEven': WHATEVER THE INPUT: true; the input reads as it did. -/
def chunkerEvenSpec : ChangeSpec := { name := "chunkerEven", fn := fun _ => fun
  | [d1, d2, d3, d4] => { results := [.lit (.bool true)], args := [d1, d2, d3, d4] }
  | _ => none }
def chunkerEvenRow : OpenClaim := { program := "ytgjofpefglbjjaa", sum := "214899375a14a1ba9926c863d949007261c23fee732b032d2cd2bf70d6d445ae", func := "cellarer/cellarerlaw10.ChunkerEven", spec := "chunkerEven", apart := false }
def ChunkerEvenSaid : Prop := chunkerEvenRow.holds Try.pinned (OpenSpec.ofChange chunkerEvenSpec)

/-- ITS FALSE NEIGHBOUR: 'it returns false'. Refute it at one input. -/
def chunkerEvenWrong : ChangeSpec := { name := "chunkerEven", fn := fun _ => fun
  | [d1, d2, d3, d4] => { results := [.lit (.bool false)], args := [d1, d2, d3, d4] }
  | _ => none }
def ChunkerEvenWrongFalsely : Prop := chunkerEvenRow.holds Try.pinned (OpenSpec.ofChange chunkerEvenWrong)

/- THE SECOND FORM. 'bulk': how many values and letters a reading holds, each counted each time it is reached (what is shared counts as often as it is met; a slice's spare places count too). A statement '..UptoSaid' is the law's where the arguments, and the package variables that the reading takes, are together of bulk at most 1048576: NARROWER than '..Said'. Prove '..Said' where nothing that the law and all that it calls make is longer than what came in: it says more and counts as full. Else prove '..UptoSaid'. A law counts once. -/
mutual
def uptoBulk {H : Type} : DataW H → Nat
  | .lit (.string bytes) => bytes.length + 1
  | .lit _ => 1
  | .nil => 1
  | .ptr d => uptoBulk d + 1
  | .slice elems spare => uptoBulkAll elems + uptoBulkAll spare + 1
  | .agg parts => uptoBulkAll parts + 1
  | .iface _ d => uptoBulk d + 1
  | .map entries => uptoBulkEntries entries + 1
  | .held _ => 1
def uptoBulkAll {H : Type} : List (DataW H) → Nat
  | [] => 0
  | d :: r => uptoBulk d + uptoBulkAll r
def uptoBulkEntries {H : Type} : List (Lit × DataW H) → Nat
  | [] => 0
  | x :: r => uptoBulkEntry x + uptoBulkEntries r
def uptoBulkEntry {H : Type} : Lit × DataW H → Nat
  | (.string bytes, d) => bytes.length + uptoBulk d + 1
  | (_, d) => uptoBulk d + 1
 end
def uptoSmall : (H : Type) → List (DataW H) → Bool := fun _ ds => decide (uptoBulkAll ds ≤ 1048576)
def OpenSpec.upto (s : _root_.Go.ChangeSpec) : _root_.Go.OpenSpec := { _root_.Go.OpenSpec.ofChange s with cond := some uptoSmall }

/-- 'cellarerlaw09.PolyRests', WHERE WHAT IT READS IS OF BULK AT MOST 1048576: true; the input reads as it did. -/
def polyRestsUptoRow : OpenClaim := { program := "ytgjofpefglbjjaa", sum := "214899375a14a1ba9926c863d949007261c23fee732b032d2cd2bf70d6d445ae", func := "cellarer/cellarerlaw09.PolyRests", spec := "polyRests", apart := false, narrowed := true }
def PolyRestsUptoSaid : Prop := polyRestsUptoRow.holds Try.pinned (OpenSpec.upto polyRestsSpec)

/-- 'cellarerlaw09.PolyDivides', WHERE WHAT IT READS IS OF BULK AT MOST 1048576: true; the input reads as it did. -/
def polyDividesUptoRow : OpenClaim := { program := "ytgjofpefglbjjaa", sum := "214899375a14a1ba9926c863d949007261c23fee732b032d2cd2bf70d6d445ae", func := "cellarer/cellarerlaw09.PolyDivides", spec := "polyDivides", apart := false, narrowed := true }
def PolyDividesUptoSaid : Prop := polyDividesUptoRow.holds Try.pinned (OpenSpec.upto polyDividesSpec)

/-- 'cellarertop.CellarerCuts', WHERE WHAT IT READS IS OF BULK AT MOST 1048576: true; the input reads as it did. -/
def cellarerCutsUptoRow : OpenClaim := { program := "ytgjofpefglbjjaa", sum := "214899375a14a1ba9926c863d949007261c23fee732b032d2cd2bf70d6d445ae", func := "cellarer/cellarertop.CellarerCuts", spec := "cellarerCuts", apart := false, narrowed := true }
def CellarerCutsUptoSaid : Prop := cellarerCutsUptoRow.holds Try.pinned (OpenSpec.upto cellarerCutsSpec)

/-- 'cellarerlaw09.PolyRing', WHERE WHAT IT READS IS OF BULK AT MOST 1048576: true; the input reads as it did. -/
def polyRingUptoRow : OpenClaim := { program := "ytgjofpefglbjjaa", sum := "214899375a14a1ba9926c863d949007261c23fee732b032d2cd2bf70d6d445ae", func := "cellarer/cellarerlaw09.PolyRing", spec := "polyRing", apart := false, narrowed := true }
def PolyRingUptoSaid : Prop := polyRingUptoRow.holds Try.pinned (OpenSpec.upto polyRingSpec)

/-- 'cellarerlaw09.PolyPrimes', WHERE WHAT IT READS IS OF BULK AT MOST 1048576: true; the input reads as it did. -/
def polyPrimesUptoRow : OpenClaim := { program := "ytgjofpefglbjjaa", sum := "214899375a14a1ba9926c863d949007261c23fee732b032d2cd2bf70d6d445ae", func := "cellarer/cellarerlaw09.PolyPrimes", spec := "polyPrimes", apart := false, narrowed := true }
def PolyPrimesUptoSaid : Prop := polyPrimesUptoRow.holds Try.pinned (OpenSpec.upto polyPrimesSpec)

/-- 'cellarerlaw09.PolyTexts', WHERE WHAT IT READS IS OF BULK AT MOST 1048576: true; the input reads as it did. -/
def polyTextsUptoRow : OpenClaim := { program := "ytgjofpefglbjjaa", sum := "214899375a14a1ba9926c863d949007261c23fee732b032d2cd2bf70d6d445ae", func := "cellarer/cellarerlaw09.PolyTexts", spec := "polyTexts", apart := false, narrowed := true }
def PolyTextsUptoSaid : Prop := polyTextsUptoRow.holds Try.pinned (OpenSpec.upto polyTextsSpec)

/-- 'cellarerlaw10.ChunkerSplits', WHERE WHAT IT READS IS OF BULK AT MOST 1048576: true; the input reads as it did. -/
def chunkerSplitsUptoRow : OpenClaim := { program := "ytgjofpefglbjjaa", sum := "214899375a14a1ba9926c863d949007261c23fee732b032d2cd2bf70d6d445ae", func := "cellarer/cellarerlaw10.ChunkerSplits", spec := "chunkerSplits", apart := false, narrowed := true }
def ChunkerSplitsUptoSaid : Prop := chunkerSplitsUptoRow.holds Try.pinned (OpenSpec.upto chunkerSplitsSpec)

/-- 'cellarerlaw10.ChunkerParts', WHERE WHAT IT READS IS OF BULK AT MOST 1048576: true; the input reads as it did. -/
def chunkerPartsUptoRow : OpenClaim := { program := "ytgjofpefglbjjaa", sum := "214899375a14a1ba9926c863d949007261c23fee732b032d2cd2bf70d6d445ae", func := "cellarer/cellarerlaw10.ChunkerParts", spec := "chunkerParts", apart := false, narrowed := true }
def ChunkerPartsUptoSaid : Prop := chunkerPartsUptoRow.holds Try.pinned (OpenSpec.upto chunkerPartsSpec)

/-- 'cellarerlaw10.ChunkerWhole', WHERE WHAT IT READS IS OF BULK AT MOST 1048576: true; the input reads as it did. -/
def chunkerWholeUptoRow : OpenClaim := { program := "ytgjofpefglbjjaa", sum := "214899375a14a1ba9926c863d949007261c23fee732b032d2cd2bf70d6d445ae", func := "cellarer/cellarerlaw10.ChunkerWhole", spec := "chunkerWhole", apart := false, narrowed := true }
def ChunkerWholeUptoSaid : Prop := chunkerWholeUptoRow.holds Try.pinned (OpenSpec.upto chunkerWholeSpec)

/-- 'cellarerlaw10.ChunkerFronts', WHERE WHAT IT READS IS OF BULK AT MOST 1048576: true; the input reads as it did. -/
def chunkerFrontsUptoRow : OpenClaim := { program := "ytgjofpefglbjjaa", sum := "214899375a14a1ba9926c863d949007261c23fee732b032d2cd2bf70d6d445ae", func := "cellarer/cellarerlaw10.ChunkerFronts", spec := "chunkerFronts", apart := false, narrowed := true }
def ChunkerFrontsUptoSaid : Prop := chunkerFrontsUptoRow.holds Try.pinned (OpenSpec.upto chunkerFrontsSpec)

/-- 'cellarerlaw10.ChunkerBacks', WHERE WHAT IT READS IS OF BULK AT MOST 1048576: true; the input reads as it did. -/
def chunkerBacksUptoRow : OpenClaim := { program := "ytgjofpefglbjjaa", sum := "214899375a14a1ba9926c863d949007261c23fee732b032d2cd2bf70d6d445ae", func := "cellarer/cellarerlaw10.ChunkerBacks", spec := "chunkerBacks", apart := false, narrowed := true }
def ChunkerBacksUptoSaid : Prop := chunkerBacksUptoRow.holds Try.pinned (OpenSpec.upto chunkerBacksSpec)

/-- 'cellarerlaw10.ChunkerEven', WHERE WHAT IT READS IS OF BULK AT MOST 1048576: true; the input reads as it did. -/
def chunkerEvenUptoRow : OpenClaim := { program := "ytgjofpefglbjjaa", sum := "214899375a14a1ba9926c863d949007261c23fee732b032d2cd2bf70d6d445ae", func := "cellarer/cellarerlaw10.ChunkerEven", spec := "chunkerEven", apart := false, narrowed := true }
def ChunkerEvenUptoSaid : Prop := chunkerEvenUptoRow.holds Try.pinned (OpenSpec.upto chunkerEvenSpec)

end Rows
end Go.Proofs.Ytgjofpefglbjjaa
