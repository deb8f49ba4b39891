/-
  No cell of these rows narrows 'for every input' (looked for: loops, veiled, ifaces, maps, wideKeys, modest, calm, conditions, laid).
  DERIVED. THE GIVEN ROWS OF THIS SEAT. 10 by the template 'for every input the law returns true; each argument reads behind the call as it read before'; 0 by the template 'total and deterministic' (their statements: YtbccljpbnbobmaaTotals.lean).
  GIVEN WITH THE SEED: the statements are not yours to turn. If you find one false, say at which input.
  Laid BY PROGRAM, IN A SANDBOX (cutbox-rows.mjs): the forced cells as the released guide's own fill.sh prints them over the translation 35eb615cd78fa3f0… (all of the seat's roots in one cut). By AI agents, Wed Nov 11 2026. No macro, syntax, notation, axiom, sorry.
-/
import Derived.Test.YtbccljpbnbobmaaChecked
import GoSem.Claim
import GoSem.ClaimJoined
import GoSem.ClaimMapViews
import Derived.JoinedTies
import Derived.KernelRfl
namespace Go.Proofs.Ytbccljpbnbobmaa
/- THE CELL 'sum', in the pinned program and in every row, IS THE sha256 OF THE DUMP (.gsa) THAT YtbccljpbnbobmaaProg.lean LOADS. Nothing in Lean hashes anything: it is a label: what it is worth is what the hold of that sum in a sandbox is worth. -/
noncomputable def Try.pinned : Pinned := { name := "ytbccljpbnbobmaa", sum := "35eb615cd78fa3f046e5ce4b252a8d5bd0859526b3695067be123d376d615c8c", checked := Try.checked }
namespace Rows
def none {H : Type} : Left H := { results := [], args := [] }

/-- 'cellarerlaw01.BitsSums': WHATEVER THE INPUT: true; the input reads as it did. -/
def bitsSumsSpec : ChangeSpec := { name := "bitsSums", fn := fun _ => fun
  | [d1, d2] => { results := [.lit (.bool true)], args := [d1, d2] }
  | _ => none }
def bitsSumsRow : OpenClaim := { program := "ytbccljpbnbobmaa", sum := "35eb615cd78fa3f046e5ce4b252a8d5bd0859526b3695067be123d376d615c8c", func := "cellarer/cellarerlaw01.BitsSums", spec := "bitsSums", apart := false }
def BitsSumsSaid : Prop := bitsSumsRow.holds Try.pinned (OpenSpec.ofChange bitsSumsSpec)

/-- ITS FALSE NEIGHBOUR: 'it returns false'. Refute it at one input. -/
def bitsSumsWrong : ChangeSpec := { name := "bitsSums", fn := fun _ => fun
  | [d1, d2] => { results := [.lit (.bool false)], args := [d1, d2] }
  | _ => none }
def BitsSumsWrongFalsely : Prop := bitsSumsRow.holds Try.pinned (OpenSpec.ofChange bitsSumsWrong)

/-- 'cellarerlaw01.BitsTable': WHATEVER THE INPUT: true; the input reads as it did. -/
def bitsTableSpec : ChangeSpec := { name := "bitsTable", fn := fun _ => fun
  | [d1, d2] => { results := [.lit (.bool true)], args := [d1, d2] }
  | _ => none }
def bitsTableRow : OpenClaim := { program := "ytbccljpbnbobmaa", sum := "35eb615cd78fa3f046e5ce4b252a8d5bd0859526b3695067be123d376d615c8c", func := "cellarer/cellarerlaw01.BitsTable", spec := "bitsTable", apart := false }
def BitsTableSaid : Prop := bitsTableRow.holds Try.pinned (OpenSpec.ofChange bitsTableSpec)

/-- ITS FALSE NEIGHBOUR: 'it returns false'. Refute it at one input. -/
def bitsTableWrong : ChangeSpec := { name := "bitsTable", fn := fun _ => fun
  | [d1, d2] => { results := [.lit (.bool false)], args := [d1, d2] }
  | _ => none }
def BitsTableWrongFalsely : Prop := bitsTableRow.holds Try.pinned (OpenSpec.ofChange bitsTableWrong)

/-- 'cellarerlaw01.BitsParts': WHATEVER THE INPUT: true; the input reads as it did. -/
def bitsPartsSpec : ChangeSpec := { name := "bitsParts", fn := fun _ => fun
  | [d1, d2, d3, d4, d5] => { results := [.lit (.bool true)], args := [d1, d2, d3, d4, d5] }
  | _ => none }
def bitsPartsRow : OpenClaim := { program := "ytbccljpbnbobmaa", sum := "35eb615cd78fa3f046e5ce4b252a8d5bd0859526b3695067be123d376d615c8c", func := "cellarer/cellarerlaw01.BitsParts", spec := "bitsParts", apart := false }
def BitsPartsSaid : Prop := bitsPartsRow.holds Try.pinned (OpenSpec.ofChange bitsPartsSpec)

/-- ITS FALSE NEIGHBOUR: 'it returns false'. Refute it at one input. -/
def bitsPartsWrong : ChangeSpec := { name := "bitsParts", fn := fun _ => fun
  | [d1, d2, d3, d4, d5] => { results := [.lit (.bool false)], args := [d1, d2, d3, d4, d5] }
  | _ => none }
def BitsPartsWrongFalsely : Prop := bitsPartsRow.holds Try.pinned (OpenSpec.ofChange bitsPartsWrong)

/-- 'cellarerlaw01.BitsNumbers': WHATEVER THE INPUT: true; the input reads as it did. -/
def bitsNumbersSpec : ChangeSpec := { name := "bitsNumbers", fn := fun _ => fun
  | [d1, d2, d3] => { results := [.lit (.bool true)], args := [d1, d2, d3] }
  | _ => none }
def bitsNumbersRow : OpenClaim := { program := "ytbccljpbnbobmaa", sum := "35eb615cd78fa3f046e5ce4b252a8d5bd0859526b3695067be123d376d615c8c", func := "cellarer/cellarerlaw01.BitsNumbers", spec := "bitsNumbers", apart := false }
def BitsNumbersSaid : Prop := bitsNumbersRow.holds Try.pinned (OpenSpec.ofChange bitsNumbersSpec)

/-- ITS FALSE NEIGHBOUR: 'it returns false'. Refute it at one input. -/
def bitsNumbersWrong : ChangeSpec := { name := "bitsNumbers", fn := fun _ => fun
  | [d1, d2, d3] => { results := [.lit (.bool false)], args := [d1, d2, d3] }
  | _ => none }
def BitsNumbersWrongFalsely : Prop := bitsNumbersRow.holds Try.pinned (OpenSpec.ofChange bitsNumbersWrong)

/-- 'cellarerlaw01.BitsVars': WHATEVER THE INPUT: true; the input reads as it did. -/
def bitsVarsSpec : ChangeSpec := { name := "bitsVars", fn := fun _ => fun
  | [d1, d2] => { results := [.lit (.bool true)], args := [d1, d2] }
  | _ => none }
def bitsVarsRow : OpenClaim := { program := "ytbccljpbnbobmaa", sum := "35eb615cd78fa3f046e5ce4b252a8d5bd0859526b3695067be123d376d615c8c", func := "cellarer/cellarerlaw01.BitsVars", spec := "bitsVars", apart := false }
def BitsVarsSaid : Prop := bitsVarsRow.holds Try.pinned (OpenSpec.ofChange bitsVarsSpec)

/-- ITS FALSE NEIGHBOUR: 'it returns false'. Refute it at one input. -/
def bitsVarsWrong : ChangeSpec := { name := "bitsVars", fn := fun _ => fun
  | [d1, d2] => { results := [.lit (.bool false)], args := [d1, d2] }
  | _ => none }
def BitsVarsWrongFalsely : Prop := bitsVarsRow.holds Try.pinned (OpenSpec.ofChange bitsVarsWrong)

/-- 'cellarerlaw01.BitsOrder': WHATEVER THE INPUT: true; the input reads as it did. -/
def bitsOrderSpec : ChangeSpec := { name := "bitsOrder", fn := fun _ => fun
  | [d1, d2, d3] => { results := [.lit (.bool true)], args := [d1, d2, d3] }
  | _ => none }
def bitsOrderRow : OpenClaim := { program := "ytbccljpbnbobmaa", sum := "35eb615cd78fa3f046e5ce4b252a8d5bd0859526b3695067be123d376d615c8c", func := "cellarer/cellarerlaw01.BitsOrder", spec := "bitsOrder", apart := false }
def BitsOrderSaid : Prop := bitsOrderRow.holds Try.pinned (OpenSpec.ofChange bitsOrderSpec)

/-- ITS FALSE NEIGHBOUR: 'it returns false'. Refute it at one input. -/
def bitsOrderWrong : ChangeSpec := { name := "bitsOrder", fn := fun _ => fun
  | [d1, d2, d3] => { results := [.lit (.bool false)], args := [d1, d2, d3] }
  | _ => none }
def BitsOrderWrongFalsely : Prop := bitsOrderRow.holds Try.pinned (OpenSpec.ofChange bitsOrderWrong)

/-- 'cellarerlaw01.BitsDigits': WHATEVER THE INPUT: true; the input reads as it did. -/
def bitsDigitsSpec : ChangeSpec := { name := "bitsDigits", fn := fun _ => fun
  | [d1, d2] => { results := [.lit (.bool true)], args := [d1, d2] }
  | _ => none }
def bitsDigitsRow : OpenClaim := { program := "ytbccljpbnbobmaa", sum := "35eb615cd78fa3f046e5ce4b252a8d5bd0859526b3695067be123d376d615c8c", func := "cellarer/cellarerlaw01.BitsDigits", spec := "bitsDigits", apart := false }
def BitsDigitsSaid : Prop := bitsDigitsRow.holds Try.pinned (OpenSpec.ofChange bitsDigitsSpec)

/-- ITS FALSE NEIGHBOUR: 'it returns false'. Refute it at one input. -/
def bitsDigitsWrong : ChangeSpec := { name := "bitsDigits", fn := fun _ => fun
  | [d1, d2] => { results := [.lit (.bool false)], args := [d1, d2] }
  | _ => none }
def BitsDigitsWrongFalsely : Prop := bitsDigitsRow.holds Try.pinned (OpenSpec.ofChange bitsDigitsWrong)

/-- 'cellarertop.CellarerNames': WHATEVER THE INPUT: true; the input reads as it did. -/
def cellarerNamesSpec : ChangeSpec := { name := "cellarerNames", fn := fun _ => fun
  | [d] => { results := [.lit (.bool true)], args := [d] }
  | _ => none }
def cellarerNamesRow : OpenClaim := { program := "ytbccljpbnbobmaa", sum := "35eb615cd78fa3f046e5ce4b252a8d5bd0859526b3695067be123d376d615c8c", func := "cellarer/cellarertop.CellarerNames", spec := "cellarerNames", unfollowed := true, recurses := true, apart := false }
def CellarerNamesSaid : Prop := cellarerNamesRow.holds Try.pinned (OpenSpec.ofChange cellarerNamesSpec)

/-- ITS FALSE NEIGHBOUR: 'it returns false'. Refute it at one input. -/
def cellarerNamesWrong : ChangeSpec := { name := "cellarerNames", fn := fun _ => fun
  | [d] => { results := [.lit (.bool false)], args := [d] }
  | _ => none }
def CellarerNamesWrongFalsely : Prop := cellarerNamesRow.holds Try.pinned (OpenSpec.ofChange cellarerNamesWrong)

/-- 'cellarerlaw02.DigestParts': WHATEVER THE INPUT: true; the input reads as it did. -/
def digestPartsSpec : ChangeSpec := { name := "digestParts", fn := fun _ => fun
  | [d1, d2] => { results := [.lit (.bool true)], args := [d1, d2] }
  | _ => none }
def digestPartsRow : OpenClaim := { program := "ytbccljpbnbobmaa", sum := "35eb615cd78fa3f046e5ce4b252a8d5bd0859526b3695067be123d376d615c8c", func := "cellarer/cellarerlaw02.DigestParts", spec := "digestParts", unfollowed := true, recurses := true, apart := false }
def DigestPartsSaid : Prop := digestPartsRow.holds Try.pinned (OpenSpec.ofChange digestPartsSpec)

/-- ITS FALSE NEIGHBOUR: 'it returns false'. Refute it at one input. -/
def digestPartsWrong : ChangeSpec := { name := "digestParts", fn := fun _ => fun
  | [d1, d2] => { results := [.lit (.bool false)], args := [d1, d2] }
  | _ => none }
def DigestPartsWrongFalsely : Prop := digestPartsRow.holds Try.pinned (OpenSpec.ofChange digestPartsWrong)

/-- 'cellarerlaw02.DigestSums': WHATEVER THE INPUT: true; the input reads as it did. -/
def digestSumsSpec : ChangeSpec := { name := "digestSums", fn := fun _ => fun
  | [d1, d2] => { results := [.lit (.bool true)], args := [d1, d2] }
  | _ => none }
def digestSumsRow : OpenClaim := { program := "ytbccljpbnbobmaa", sum := "35eb615cd78fa3f046e5ce4b252a8d5bd0859526b3695067be123d376d615c8c", func := "cellarer/cellarerlaw02.DigestSums", spec := "digestSums", unfollowed := true, recurses := true, apart := false }
def DigestSumsSaid : Prop := digestSumsRow.holds Try.pinned (OpenSpec.ofChange digestSumsSpec)

/-- ITS FALSE NEIGHBOUR: 'it returns false'. Refute it at one input. -/
def digestSumsWrong : ChangeSpec := { name := "digestSums", fn := fun _ => fun
  | [d1, d2] => { results := [.lit (.bool false)], args := [d1, d2] }
  | _ => none }
def DigestSumsWrongFalsely : Prop := digestSumsRow.holds Try.pinned (OpenSpec.ofChange digestSumsWrong)

/- THE SECOND FORM. 'bulk': how many values and letters a reading holds, each counted each time it is reached (what is shared counts as often as it is met; a slice's spare places count too). A statement '..UptoSaid' is the law's where the arguments, and the package variables that the reading takes, are together of bulk at most 1048576: NARROWER than '..Said'. Prove '..Said' where nothing that the law and all that it calls make is longer than what came in: it says more and counts as full. Else prove '..UptoSaid'. A law counts once. -/
mutual
def uptoBulk {H : Type} : DataW H → Nat
  | .lit (.string bytes) => bytes.length + 1
  | .lit _ => 1
  | .nil => 1
  | .ptr d => uptoBulk d + 1
  | .slice elems spare => uptoBulkAll elems + uptoBulkAll spare + 1
  | .agg parts => uptoBulkAll parts + 1
  | .iface _ d => uptoBulk d + 1
  | .map entries => uptoBulkEntries entries + 1
  | .held _ => 1
def uptoBulkAll {H : Type} : List (DataW H) → Nat
  | [] => 0
  | d :: r => uptoBulk d + uptoBulkAll r
def uptoBulkEntries {H : Type} : List (Lit × DataW H) → Nat
  | [] => 0
  | x :: r => uptoBulkEntry x + uptoBulkEntries r
def uptoBulkEntry {H : Type} : Lit × DataW H → Nat
  | (.string bytes, d) => bytes.length + uptoBulk d + 1
  | (_, d) => uptoBulk d + 1
 end
def uptoSmall : (H : Type) → List (DataW H) → Bool := fun _ ds => decide (uptoBulkAll ds ≤ 1048576)
def OpenSpec.upto (s : _root_.Go.ChangeSpec) : _root_.Go.OpenSpec := { _root_.Go.OpenSpec.ofChange s with cond := some uptoSmall }

/-- 'cellarerlaw01.BitsSums', WHERE WHAT IT READS IS OF BULK AT MOST 1048576: true; the input reads as it did. -/
def bitsSumsUptoRow : OpenClaim := { program := "ytbccljpbnbobmaa", sum := "35eb615cd78fa3f046e5ce4b252a8d5bd0859526b3695067be123d376d615c8c", func := "cellarer/cellarerlaw01.BitsSums", spec := "bitsSums", apart := false, narrowed := true }
def BitsSumsUptoSaid : Prop := bitsSumsUptoRow.holds Try.pinned (OpenSpec.upto bitsSumsSpec)

/-- 'cellarerlaw01.BitsTable', WHERE WHAT IT READS IS OF BULK AT MOST 1048576: true; the input reads as it did. -/
def bitsTableUptoRow : OpenClaim := { program := "ytbccljpbnbobmaa", sum := "35eb615cd78fa3f046e5ce4b252a8d5bd0859526b3695067be123d376d615c8c", func := "cellarer/cellarerlaw01.BitsTable", spec := "bitsTable", apart := false, narrowed := true }
def BitsTableUptoSaid : Prop := bitsTableUptoRow.holds Try.pinned (OpenSpec.upto bitsTableSpec)

/-- 'cellarerlaw01.BitsParts', WHERE WHAT IT READS IS OF BULK AT MOST 1048576: true; the input reads as it did. -/
def bitsPartsUptoRow : OpenClaim := { program := "ytbccljpbnbobmaa", sum := "35eb615cd78fa3f046e5ce4b252a8d5bd0859526b3695067be123d376d615c8c", func := "cellarer/cellarerlaw01.BitsParts", spec := "bitsParts", apart := false, narrowed := true }
def BitsPartsUptoSaid : Prop := bitsPartsUptoRow.holds Try.pinned (OpenSpec.upto bitsPartsSpec)

/-- 'cellarerlaw01.BitsNumbers', WHERE WHAT IT READS IS OF BULK AT MOST 1048576: true; the input reads as it did. -/
def bitsNumbersUptoRow : OpenClaim := { program := "ytbccljpbnbobmaa", sum := "35eb615cd78fa3f046e5ce4b252a8d5bd0859526b3695067be123d376d615c8c", func := "cellarer/cellarerlaw01.BitsNumbers", spec := "bitsNumbers", apart := false, narrowed := true }
def BitsNumbersUptoSaid : Prop := bitsNumbersUptoRow.holds Try.pinned (OpenSpec.upto bitsNumbersSpec)

/-- 'cellarerlaw01.BitsVars', WHERE WHAT IT READS IS OF BULK AT MOST 1048576: true; the input reads as it did. -/
def bitsVarsUptoRow : OpenClaim := { program := "ytbccljpbnbobmaa", sum := "35eb615cd78fa3f046e5ce4b252a8d5bd0859526b3695067be123d376d615c8c", func := "cellarer/cellarerlaw01.BitsVars", spec := "bitsVars", apart := false, narrowed := true }
def BitsVarsUptoSaid : Prop := bitsVarsUptoRow.holds Try.pinned (OpenSpec.upto bitsVarsSpec)

/-- 'cellarerlaw01.BitsOrder', WHERE WHAT IT READS IS OF BULK AT MOST 1048576: true; the input reads as it did. -/
def bitsOrderUptoRow : OpenClaim := { program := "ytbccljpbnbobmaa", sum := "35eb615cd78fa3f046e5ce4b252a8d5bd0859526b3695067be123d376d615c8c", func := "cellarer/cellarerlaw01.BitsOrder", spec := "bitsOrder", apart := false, narrowed := true }
def BitsOrderUptoSaid : Prop := bitsOrderUptoRow.holds Try.pinned (OpenSpec.upto bitsOrderSpec)

/-- 'cellarerlaw01.BitsDigits', WHERE WHAT IT READS IS OF BULK AT MOST 1048576: true; the input reads as it did. -/
def bitsDigitsUptoRow : OpenClaim := { program := "ytbccljpbnbobmaa", sum := "35eb615cd78fa3f046e5ce4b252a8d5bd0859526b3695067be123d376d615c8c", func := "cellarer/cellarerlaw01.BitsDigits", spec := "bitsDigits", apart := false, narrowed := true }
def BitsDigitsUptoSaid : Prop := bitsDigitsUptoRow.holds Try.pinned (OpenSpec.upto bitsDigitsSpec)

/-- 'cellarertop.CellarerNames', WHERE WHAT IT READS IS OF BULK AT MOST 1048576: true; the input reads as it did. -/
def cellarerNamesUptoRow : OpenClaim := { program := "ytbccljpbnbobmaa", sum := "35eb615cd78fa3f046e5ce4b252a8d5bd0859526b3695067be123d376d615c8c", func := "cellarer/cellarertop.CellarerNames", spec := "cellarerNames", unfollowed := true, recurses := true, apart := false, narrowed := true }
def CellarerNamesUptoSaid : Prop := cellarerNamesUptoRow.holds Try.pinned (OpenSpec.upto cellarerNamesSpec)

/-- 'cellarerlaw02.DigestParts', WHERE WHAT IT READS IS OF BULK AT MOST 1048576: true; the input reads as it did. -/
def digestPartsUptoRow : OpenClaim := { program := "ytbccljpbnbobmaa", sum := "35eb615cd78fa3f046e5ce4b252a8d5bd0859526b3695067be123d376d615c8c", func := "cellarer/cellarerlaw02.DigestParts", spec := "digestParts", unfollowed := true, recurses := true, apart := false, narrowed := true }
def DigestPartsUptoSaid : Prop := digestPartsUptoRow.holds Try.pinned (OpenSpec.upto digestPartsSpec)

/-- 'cellarerlaw02.DigestSums', WHERE WHAT IT READS IS OF BULK AT MOST 1048576: true; the input reads as it did. -/
def digestSumsUptoRow : OpenClaim := { program := "ytbccljpbnbobmaa", sum := "35eb615cd78fa3f046e5ce4b252a8d5bd0859526b3695067be123d376d615c8c", func := "cellarer/cellarerlaw02.DigestSums", spec := "digestSums", unfollowed := true, recurses := true, apart := false, narrowed := true }
def DigestSumsUptoSaid : Prop := digestSumsUptoRow.holds Try.pinned (OpenSpec.upto digestSumsSpec)

end Rows
end Go.Proofs.Ytbccljpbnbobmaa
