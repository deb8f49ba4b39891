/-
  No cell of these rows narrows 'for every input' (looked for: loops, veiled, ifaces, maps, wideKeys, modest, calm, conditions, laid).
  DERIVED. THE GIVEN ROWS OF THIS SEAT. 10 by the template 'for every input the law returns true; each argument reads behind the call as it read before'; 0 by the template 'total and deterministic' (their statements: YtginjnpboggnbaaTotals.lean).
  GIVEN WITH THE SEED: the statements are not yours to turn. If you find one false, say at which input.
  Laid BY PROGRAM, IN A SANDBOX (cutbox-rows.mjs): the forced cells as the released guide's own fill.sh prints them over the translation d99ecce6d1b6e14d… (all of the seat's roots in one cut). By AI agents, Wed Nov 11 2026. No macro, syntax, notation, axiom, sorry.
-/
import Derived.Test.YtginjnpboggnbaaChecked
import GoSem.Claim
import GoSem.ClaimJoined
import GoSem.ClaimMapViews
import Derived.JoinedTies
import Derived.KernelRfl
namespace Go.Proofs.Ytginjnpboggnbaa
/- THE CELL 'sum', in the pinned program and in every row, IS THE sha256 OF THE DUMP (.gsa) THAT YtginjnpboggnbaaProg.lean LOADS. Nothing in Lean hashes anything: it is a label: what it is worth is what the hold of that sum in a sandbox is worth. -/
noncomputable def Try.pinned : Pinned := { name := "ytginjnpboggnbaa", sum := "d99ecce6d1b6e14d86d264ffe7f138569278412c9cd106f77351fbc77c7f94d1", checked := Try.checked }
namespace Rows
def none {H : Type} : Left H := { results := [], args := [] }

/-- 'cellarerlaw04.HuffApart': WHATEVER THE INPUT: true; the input reads as it did. -/
def huffApartSpec : ChangeSpec := { name := "huffApart", fn := fun _ => fun
  | [d] => { results := [.lit (.bool true)], args := [d] }
  | _ => none }
def huffApartRow : OpenClaim := { program := "ytginjnpboggnbaa", sum := "d99ecce6d1b6e14d86d264ffe7f138569278412c9cd106f77351fbc77c7f94d1", func := "cellarer/cellarerlaw04.HuffApart", spec := "huffApart", apart := false }
def HuffApartSaid : Prop := huffApartRow.holds Try.pinned (OpenSpec.ofChange huffApartSpec)

/-- ITS FALSE NEIGHBOUR: 'it returns false'. Refute it at one input. -/
def huffApartWrong : ChangeSpec := { name := "huffApart", fn := fun _ => fun
  | [d] => { results := [.lit (.bool false)], args := [d] }
  | _ => none }
def HuffApartWrongFalsely : Prop := huffApartRow.holds Try.pinned (OpenSpec.ofChange huffApartWrong)

/-- 'cellarerlaw03.BitioPuts': WHATEVER THE INPUT: true; the input reads as it did. -/
def bitioPutsSpec : ChangeSpec := { name := "bitioPuts", fn := fun _ => fun
  | [d] => { results := [.lit (.bool true)], args := [d] }
  | _ => none }
def bitioPutsRow : OpenClaim := { program := "ytginjnpboggnbaa", sum := "d99ecce6d1b6e14d86d264ffe7f138569278412c9cd106f77351fbc77c7f94d1", func := "cellarer/cellarerlaw03.BitioPuts", spec := "bitioPuts", apart := false }
def BitioPutsSaid : Prop := bitioPutsRow.holds Try.pinned (OpenSpec.ofChange bitioPutsSpec)

/-- ITS FALSE NEIGHBOUR: 'it returns false'. Refute it at one input. -/
def bitioPutsWrong : ChangeSpec := { name := "bitioPuts", fn := fun _ => fun
  | [d] => { results := [.lit (.bool false)], args := [d] }
  | _ => none }
def BitioPutsWrongFalsely : Prop := bitioPutsRow.holds Try.pinned (OpenSpec.ofChange bitioPutsWrong)

/-- 'cellarerlaw03.BitioParts': WHATEVER THE INPUT: true; the input reads as it did. -/
def bitioPartsSpec : ChangeSpec := { name := "bitioParts", fn := fun _ => fun
  | [d1, d2, d3, d4] => { results := [.lit (.bool true)], args := [d1, d2, d3, d4] }
  | _ => none }
def bitioPartsRow : OpenClaim := { program := "ytginjnpboggnbaa", sum := "d99ecce6d1b6e14d86d264ffe7f138569278412c9cd106f77351fbc77c7f94d1", func := "cellarer/cellarerlaw03.BitioParts", spec := "bitioParts", apart := false }
def BitioPartsSaid : Prop := bitioPartsRow.holds Try.pinned (OpenSpec.ofChange bitioPartsSpec)

/-- ITS FALSE NEIGHBOUR: 'it returns false'. Refute it at one input. -/
def bitioPartsWrong : ChangeSpec := { name := "bitioParts", fn := fun _ => fun
  | [d1, d2, d3, d4] => { results := [.lit (.bool false)], args := [d1, d2, d3, d4] }
  | _ => none }
def BitioPartsWrongFalsely : Prop := bitioPartsRow.holds Try.pinned (OpenSpec.ofChange bitioPartsWrong)

/-- 'cellarerlaw04.HuffCodes': WHATEVER THE INPUT: true; the input reads as it did. -/
def huffCodesSpec : ChangeSpec := { name := "huffCodes", fn := fun _ => fun
  | [d] => { results := [.lit (.bool true)], args := [d] }
  | _ => none }
def huffCodesRow : OpenClaim := { program := "ytginjnpboggnbaa", sum := "d99ecce6d1b6e14d86d264ffe7f138569278412c9cd106f77351fbc77c7f94d1", func := "cellarer/cellarerlaw04.HuffCodes", spec := "huffCodes", apart := false }
def HuffCodesSaid : Prop := huffCodesRow.holds Try.pinned (OpenSpec.ofChange huffCodesSpec)

/-- ITS FALSE NEIGHBOUR: 'it returns false'. Refute it at one input. -/
def huffCodesWrong : ChangeSpec := { name := "huffCodes", fn := fun _ => fun
  | [d] => { results := [.lit (.bool false)], args := [d] }
  | _ => none }
def HuffCodesWrongFalsely : Prop := huffCodesRow.holds Try.pinned (OpenSpec.ofChange huffCodesWrong)

/-- 'cellarerlaw03.BitioTakes': WHATEVER THE INPUT: true; the input reads as it did. -/
def bitioTakesSpec : ChangeSpec := { name := "bitioTakes", fn := fun _ => fun
  | [d1, d2] => { results := [.lit (.bool true)], args := [d1, d2] }
  | _ => none }
def bitioTakesRow : OpenClaim := { program := "ytginjnpboggnbaa", sum := "d99ecce6d1b6e14d86d264ffe7f138569278412c9cd106f77351fbc77c7f94d1", func := "cellarer/cellarerlaw03.BitioTakes", spec := "bitioTakes", apart := false }
def BitioTakesSaid : Prop := bitioTakesRow.holds Try.pinned (OpenSpec.ofChange bitioTakesSpec)

/-- ITS FALSE NEIGHBOUR: 'it returns false'. Refute it at one input. -/
def bitioTakesWrong : ChangeSpec := { name := "bitioTakes", fn := fun _ => fun
  | [d1, d2] => { results := [.lit (.bool false)], args := [d1, d2] }
  | _ => none }
def BitioTakesWrongFalsely : Prop := bitioTakesRow.holds Try.pinned (OpenSpec.ofChange bitioTakesWrong)

/-- 'cellarerlaw03.BitioAgain': WHATEVER THE INPUT: true; the input reads as it did. -/
def bitioAgainSpec : ChangeSpec := { name := "bitioAgain", fn := fun _ => fun
  | [d] => { results := [.lit (.bool true)], args := [d] }
  | _ => none }
def bitioAgainRow : OpenClaim := { program := "ytginjnpboggnbaa", sum := "d99ecce6d1b6e14d86d264ffe7f138569278412c9cd106f77351fbc77c7f94d1", func := "cellarer/cellarerlaw03.BitioAgain", spec := "bitioAgain", apart := false }
def BitioAgainSaid : Prop := bitioAgainRow.holds Try.pinned (OpenSpec.ofChange bitioAgainSpec)

/-- ITS FALSE NEIGHBOUR: 'it returns false'. Refute it at one input. -/
def bitioAgainWrong : ChangeSpec := { name := "bitioAgain", fn := fun _ => fun
  | [d] => { results := [.lit (.bool false)], args := [d] }
  | _ => none }
def BitioAgainWrongFalsely : Prop := bitioAgainRow.holds Try.pinned (OpenSpec.ofChange bitioAgainWrong)

/-- 'cellarerlaw04.HuffNexts': WHATEVER THE INPUT: true; the input reads as it did. -/
def huffNextsSpec : ChangeSpec := { name := "huffNexts", fn := fun _ => fun
  | [d1, d2] => { results := [.lit (.bool true)], args := [d1, d2] }
  | _ => none }
def huffNextsRow : OpenClaim := { program := "ytginjnpboggnbaa", sum := "d99ecce6d1b6e14d86d264ffe7f138569278412c9cd106f77351fbc77c7f94d1", func := "cellarer/cellarerlaw04.HuffNexts", spec := "huffNexts", apart := false }
def HuffNextsSaid : Prop := huffNextsRow.holds Try.pinned (OpenSpec.ofChange huffNextsSpec)

/-- ITS FALSE NEIGHBOUR: 'it returns false'. Refute it at one input. -/
def huffNextsWrong : ChangeSpec := { name := "huffNexts", fn := fun _ => fun
  | [d1, d2] => { results := [.lit (.bool false)], args := [d1, d2] }
  | _ => none }
def HuffNextsWrongFalsely : Prop := huffNextsRow.holds Try.pinned (OpenSpec.ofChange huffNextsWrong)

/-- 'cellarertop.CellarerCodes': WHATEVER THE INPUT: true; the input reads as it did. -/
def cellarerCodesSpec : ChangeSpec := { name := "cellarerCodes", fn := fun _ => fun
  | [d1, d2] => { results := [.lit (.bool true)], args := [d1, d2] }
  | _ => none }
def cellarerCodesRow : OpenClaim := { program := "ytginjnpboggnbaa", sum := "d99ecce6d1b6e14d86d264ffe7f138569278412c9cd106f77351fbc77c7f94d1", func := "cellarer/cellarertop.CellarerCodes", spec := "cellarerCodes", unfollowed := true, recurses := true, apart := false }
def CellarerCodesSaid : Prop := cellarerCodesRow.holds Try.pinned (OpenSpec.ofChange cellarerCodesSpec)

/-- ITS FALSE NEIGHBOUR: 'it returns false'. Refute it at one input. -/
def cellarerCodesWrong : ChangeSpec := { name := "cellarerCodes", fn := fun _ => fun
  | [d1, d2] => { results := [.lit (.bool false)], args := [d1, d2] }
  | _ => none }
def CellarerCodesWrongFalsely : Prop := cellarerCodesRow.holds Try.pinned (OpenSpec.ofChange cellarerCodesWrong)

/-- 'cellarerlaw04.HuffAgain': WHATEVER THE INPUT: true; the input reads as it did. -/
def huffAgainSpec : ChangeSpec := { name := "huffAgain", fn := fun _ => fun
  | [d1, d2] => { results := [.lit (.bool true)], args := [d1, d2] }
  | _ => none }
def huffAgainRow : OpenClaim := { program := "ytginjnpboggnbaa", sum := "d99ecce6d1b6e14d86d264ffe7f138569278412c9cd106f77351fbc77c7f94d1", func := "cellarer/cellarerlaw04.HuffAgain", spec := "huffAgain", apart := false }
def HuffAgainSaid : Prop := huffAgainRow.holds Try.pinned (OpenSpec.ofChange huffAgainSpec)

/-- ITS FALSE NEIGHBOUR: 'it returns false'. Refute it at one input. -/
def huffAgainWrong : ChangeSpec := { name := "huffAgain", fn := fun _ => fun
  | [d1, d2] => { results := [.lit (.bool false)], args := [d1, d2] }
  | _ => none }
def HuffAgainWrongFalsely : Prop := huffAgainRow.holds Try.pinned (OpenSpec.ofChange huffAgainWrong)

/-- 'cellarerlaw04.HuffLengths': WHATEVER THE INPUT: true; the input reads as it did. -/
def huffLengthsSpec : ChangeSpec := { name := "huffLengths", fn := fun _ => fun
  | [d1, d2] => { results := [.lit (.bool true)], args := [d1, d2] }
  | _ => none }
def huffLengthsRow : OpenClaim := { program := "ytginjnpboggnbaa", sum := "d99ecce6d1b6e14d86d264ffe7f138569278412c9cd106f77351fbc77c7f94d1", func := "cellarer/cellarerlaw04.HuffLengths", spec := "huffLengths", unfollowed := true, recurses := true, apart := false }
def HuffLengthsSaid : Prop := huffLengthsRow.holds Try.pinned (OpenSpec.ofChange huffLengthsSpec)

/-- ITS FALSE NEIGHBOUR: 'it returns false'. Refute it at one input. -/
def huffLengthsWrong : ChangeSpec := { name := "huffLengths", fn := fun _ => fun
  | [d1, d2] => { results := [.lit (.bool false)], args := [d1, d2] }
  | _ => none }
def HuffLengthsWrongFalsely : Prop := huffLengthsRow.holds Try.pinned (OpenSpec.ofChange huffLengthsWrong)

/- THE SECOND FORM. 'bulk': how many values and letters a reading holds, each counted each time it is reached (what is shared counts as often as it is met; a slice's spare places count too). A statement '..UptoSaid' is the law's where the arguments, and the package variables that the reading takes, are together of bulk at most 1048576: NARROWER than '..Said'. Prove '..Said' where nothing that the law and all that it calls make is longer than what came in: it says more and counts as full. Else prove '..UptoSaid'. A law counts once. -/
mutual
def uptoBulk {H : Type} : DataW H → Nat
  | .lit (.string bytes) => bytes.length + 1
  | .lit _ => 1
  | .nil => 1
  | .ptr d => uptoBulk d + 1
  | .slice elems spare => uptoBulkAll elems + uptoBulkAll spare + 1
  | .agg parts => uptoBulkAll parts + 1
  | .iface _ d => uptoBulk d + 1
  | .map entries => uptoBulkEntries entries + 1
  | .held _ => 1
def uptoBulkAll {H : Type} : List (DataW H) → Nat
  | [] => 0
  | d :: r => uptoBulk d + uptoBulkAll r
def uptoBulkEntries {H : Type} : List (Lit × DataW H) → Nat
  | [] => 0
  | x :: r => uptoBulkEntry x + uptoBulkEntries r
def uptoBulkEntry {H : Type} : Lit × DataW H → Nat
  | (.string bytes, d) => bytes.length + uptoBulk d + 1
  | (_, d) => uptoBulk d + 1
 end
def uptoSmall : (H : Type) → List (DataW H) → Bool := fun _ ds => decide (uptoBulkAll ds ≤ 1048576)
def OpenSpec.upto (s : _root_.Go.ChangeSpec) : _root_.Go.OpenSpec := { _root_.Go.OpenSpec.ofChange s with cond := some uptoSmall }

/-- 'cellarerlaw04.HuffApart', WHERE WHAT IT READS IS OF BULK AT MOST 1048576: true; the input reads as it did. -/
def huffApartUptoRow : OpenClaim := { program := "ytginjnpboggnbaa", sum := "d99ecce6d1b6e14d86d264ffe7f138569278412c9cd106f77351fbc77c7f94d1", func := "cellarer/cellarerlaw04.HuffApart", spec := "huffApart", apart := false, narrowed := true }
def HuffApartUptoSaid : Prop := huffApartUptoRow.holds Try.pinned (OpenSpec.upto huffApartSpec)

/-- 'cellarerlaw03.BitioPuts', WHERE WHAT IT READS IS OF BULK AT MOST 1048576: true; the input reads as it did. -/
def bitioPutsUptoRow : OpenClaim := { program := "ytginjnpboggnbaa", sum := "d99ecce6d1b6e14d86d264ffe7f138569278412c9cd106f77351fbc77c7f94d1", func := "cellarer/cellarerlaw03.BitioPuts", spec := "bitioPuts", apart := false, narrowed := true }
def BitioPutsUptoSaid : Prop := bitioPutsUptoRow.holds Try.pinned (OpenSpec.upto bitioPutsSpec)

/-- 'cellarerlaw03.BitioParts', WHERE WHAT IT READS IS OF BULK AT MOST 1048576: true; the input reads as it did. -/
def bitioPartsUptoRow : OpenClaim := { program := "ytginjnpboggnbaa", sum := "d99ecce6d1b6e14d86d264ffe7f138569278412c9cd106f77351fbc77c7f94d1", func := "cellarer/cellarerlaw03.BitioParts", spec := "bitioParts", apart := false, narrowed := true }
def BitioPartsUptoSaid : Prop := bitioPartsUptoRow.holds Try.pinned (OpenSpec.upto bitioPartsSpec)

/-- 'cellarerlaw04.HuffCodes', WHERE WHAT IT READS IS OF BULK AT MOST 1048576: true; the input reads as it did. -/
def huffCodesUptoRow : OpenClaim := { program := "ytginjnpboggnbaa", sum := "d99ecce6d1b6e14d86d264ffe7f138569278412c9cd106f77351fbc77c7f94d1", func := "cellarer/cellarerlaw04.HuffCodes", spec := "huffCodes", apart := false, narrowed := true }
def HuffCodesUptoSaid : Prop := huffCodesUptoRow.holds Try.pinned (OpenSpec.upto huffCodesSpec)

/-- 'cellarerlaw03.BitioTakes', WHERE WHAT IT READS IS OF BULK AT MOST 1048576: true; the input reads as it did. -/
def bitioTakesUptoRow : OpenClaim := { program := "ytginjnpboggnbaa", sum := "d99ecce6d1b6e14d86d264ffe7f138569278412c9cd106f77351fbc77c7f94d1", func := "cellarer/cellarerlaw03.BitioTakes", spec := "bitioTakes", apart := false, narrowed := true }
def BitioTakesUptoSaid : Prop := bitioTakesUptoRow.holds Try.pinned (OpenSpec.upto bitioTakesSpec)

/-- 'cellarerlaw03.BitioAgain', WHERE WHAT IT READS IS OF BULK AT MOST 1048576: true; the input reads as it did. -/
def bitioAgainUptoRow : OpenClaim := { program := "ytginjnpboggnbaa", sum := "d99ecce6d1b6e14d86d264ffe7f138569278412c9cd106f77351fbc77c7f94d1", func := "cellarer/cellarerlaw03.BitioAgain", spec := "bitioAgain", apart := false, narrowed := true }
def BitioAgainUptoSaid : Prop := bitioAgainUptoRow.holds Try.pinned (OpenSpec.upto bitioAgainSpec)

/-- 'cellarerlaw04.HuffNexts', WHERE WHAT IT READS IS OF BULK AT MOST 1048576: true; the input reads as it did. -/
def huffNextsUptoRow : OpenClaim := { program := "ytginjnpboggnbaa", sum := "d99ecce6d1b6e14d86d264ffe7f138569278412c9cd106f77351fbc77c7f94d1", func := "cellarer/cellarerlaw04.HuffNexts", spec := "huffNexts", apart := false, narrowed := true }
def HuffNextsUptoSaid : Prop := huffNextsUptoRow.holds Try.pinned (OpenSpec.upto huffNextsSpec)

/-- 'cellarertop.CellarerCodes', WHERE WHAT IT READS IS OF BULK AT MOST 1048576: true; the input reads as it did. -/
def cellarerCodesUptoRow : OpenClaim := { program := "ytginjnpboggnbaa", sum := "d99ecce6d1b6e14d86d264ffe7f138569278412c9cd106f77351fbc77c7f94d1", func := "cellarer/cellarertop.CellarerCodes", spec := "cellarerCodes", unfollowed := true, recurses := true, apart := false, narrowed := true }
def CellarerCodesUptoSaid : Prop := cellarerCodesUptoRow.holds Try.pinned (OpenSpec.upto cellarerCodesSpec)

/-- 'cellarerlaw04.HuffAgain', WHERE WHAT IT READS IS OF BULK AT MOST 1048576: true; the input reads as it did. -/
def huffAgainUptoRow : OpenClaim := { program := "ytginjnpboggnbaa", sum := "d99ecce6d1b6e14d86d264ffe7f138569278412c9cd106f77351fbc77c7f94d1", func := "cellarer/cellarerlaw04.HuffAgain", spec := "huffAgain", apart := false, narrowed := true }
def HuffAgainUptoSaid : Prop := huffAgainUptoRow.holds Try.pinned (OpenSpec.upto huffAgainSpec)

/-- 'cellarerlaw04.HuffLengths', WHERE WHAT IT READS IS OF BULK AT MOST 1048576: true; the input reads as it did. -/
def huffLengthsUptoRow : OpenClaim := { program := "ytginjnpboggnbaa", sum := "d99ecce6d1b6e14d86d264ffe7f138569278412c9cd106f77351fbc77c7f94d1", func := "cellarer/cellarerlaw04.HuffLengths", spec := "huffLengths", unfollowed := true, recurses := true, apart := false, narrowed := true }
def HuffLengthsUptoSaid : Prop := huffLengthsUptoRow.holds Try.pinned (OpenSpec.upto huffLengthsSpec)

end Rows
end Go.Proofs.Ytginjnpboggnbaa
