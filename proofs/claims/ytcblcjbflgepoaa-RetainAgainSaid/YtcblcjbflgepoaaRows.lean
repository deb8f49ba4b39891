/-
  No cell of these rows narrows 'for every input' (looked for: loops, veiled, ifaces, maps, wideKeys, modest, calm, conditions, laid).
  DERIVED. THE GIVEN ROWS OF THIS SEAT. 8 by the template 'for every input the law returns true; each argument reads behind the call as it read before'; 0 by the template 'total and deterministic' (their statements: YtcblcjbflgepoaaTotals.lean).
  GIVEN WITH THE SEED: the statements are not yours to turn. If you find one false, say at which input.
  Laid BY PROGRAM, IN A SANDBOX (cutbox-rows.mjs): the forced cells as the released guide's own fill.sh prints them over the translation de678fa6e49db5f3… (all of the seat's roots in one cut). By AI agents, Wed Nov 11 2026. No macro, syntax, notation, axiom, sorry.
-/
import Derived.Test.YtcblcjbflgepoaaChecked
import GoSem.Claim
import GoSem.ClaimJoined
import GoSem.ClaimMapViews
import Derived.JoinedTies
import Derived.KernelRfl
namespace Go.Proofs.Ytcblcjbflgepoaa
/- THE CELL 'sum', in the pinned program and in every row, IS THE sha256 OF THE DUMP (.gsa) THAT YtcblcjbflgepoaaProg.lean LOADS. Nothing in Lean hashes anything: it is a label: what it is worth is what the hold of that sum in a sandbox is worth. -/
noncomputable def Try.pinned : Pinned := { name := "ytcblcjbflgepoaa", sum := "de678fa6e49db5f3ad9c7a22b11e2597cdab5e4ef334f9e1229d56520ce45bdd", checked := Try.checked }
namespace Rows
def none {H : Type} : Left H := { results := [], args := [] }

/-- 'cellarerlaw20.DaysNumbers': WHATEVER THE INPUT: true; the input reads as it did. -/
def daysNumbersSpec : ChangeSpec := { name := "daysNumbers", fn := fun _ => fun
  | [d] => { results := [.lit (.bool true)], args := [d] }
  | _ => none }
def daysNumbersRow : OpenClaim := { program := "ytcblcjbflgepoaa", sum := "de678fa6e49db5f3ad9c7a22b11e2597cdab5e4ef334f9e1229d56520ce45bdd", func := "cellarer/cellarerlaw20.DaysNumbers", spec := "daysNumbers", apart := false }
def DaysNumbersSaid : Prop := daysNumbersRow.holds Try.pinned (OpenSpec.ofChange daysNumbersSpec)

/-- ITS FALSE NEIGHBOUR: 'it returns false'. Refute it at one input. -/
def daysNumbersWrong : ChangeSpec := { name := "daysNumbers", fn := fun _ => fun
  | [d] => { results := [.lit (.bool false)], args := [d] }
  | _ => none }
def DaysNumbersWrongFalsely : Prop := daysNumbersRow.holds Try.pinned (OpenSpec.ofChange daysNumbersWrong)

/-- 'cellarerlaw20.DaysGo': WHATEVER THE INPUT: true; the input reads as it did. -/
def daysGoSpec : ChangeSpec := { name := "daysGo", fn := fun _ => fun
  | [d1, d2] => { results := [.lit (.bool true)], args := [d1, d2] }
  | _ => none }
def daysGoRow : OpenClaim := { program := "ytcblcjbflgepoaa", sum := "de678fa6e49db5f3ad9c7a22b11e2597cdab5e4ef334f9e1229d56520ce45bdd", func := "cellarer/cellarerlaw20.DaysGo", spec := "daysGo", apart := false }
def DaysGoSaid : Prop := daysGoRow.holds Try.pinned (OpenSpec.ofChange daysGoSpec)

/-- ITS FALSE NEIGHBOUR: 'it returns false'. Refute it at one input. -/
def daysGoWrong : ChangeSpec := { name := "daysGo", fn := fun _ => fun
  | [d1, d2] => { results := [.lit (.bool false)], args := [d1, d2] }
  | _ => none }
def DaysGoWrongFalsely : Prop := daysGoRow.holds Try.pinned (OpenSpec.ofChange daysGoWrong)

/-- 'cellarerlaw20.DaysDates': WHATEVER THE INPUT: true; the input reads as it did. -/
def daysDatesSpec : ChangeSpec := { name := "daysDates", fn := fun _ => fun
  | [d] => { results := [.lit (.bool true)], args := [d] }
  | _ => none }
def daysDatesRow : OpenClaim := { program := "ytcblcjbflgepoaa", sum := "de678fa6e49db5f3ad9c7a22b11e2597cdab5e4ef334f9e1229d56520ce45bdd", func := "cellarer/cellarerlaw20.DaysDates", spec := "daysDates", apart := false }
def DaysDatesSaid : Prop := daysDatesRow.holds Try.pinned (OpenSpec.ofChange daysDatesSpec)

/-- ITS FALSE NEIGHBOUR: 'it returns false'. Refute it at one input. -/
def daysDatesWrong : ChangeSpec := { name := "daysDates", fn := fun _ => fun
  | [d] => { results := [.lit (.bool false)], args := [d] }
  | _ => none }
def DaysDatesWrongFalsely : Prop := daysDatesRow.holds Try.pinned (OpenSpec.ofChange daysDatesWrong)

/-- 'cellarerlaw20.DaysFour': WHATEVER THE INPUT: true; the input reads as it did. -/
def daysFourSpec : ChangeSpec := { name := "daysFour", fn := fun _ => fun
  | [d] => { results := [.lit (.bool true)], args := [d] }
  | _ => none }
def daysFourRow : OpenClaim := { program := "ytcblcjbflgepoaa", sum := "de678fa6e49db5f3ad9c7a22b11e2597cdab5e4ef334f9e1229d56520ce45bdd", func := "cellarer/cellarerlaw20.DaysFour", spec := "daysFour", apart := false }
def DaysFourSaid : Prop := daysFourRow.holds Try.pinned (OpenSpec.ofChange daysFourSpec)

/-- ITS FALSE NEIGHBOUR: 'it returns false'. Refute it at one input. -/
def daysFourWrong : ChangeSpec := { name := "daysFour", fn := fun _ => fun
  | [d] => { results := [.lit (.bool false)], args := [d] }
  | _ => none }
def DaysFourWrongFalsely : Prop := daysFourRow.holds Try.pinned (OpenSpec.ofChange daysFourWrong)

/-- 'cellarerlaw21.RetainKeeps': WHATEVER THE INPUT: true; the input reads as it did. -/
def retainKeepsSpec : ChangeSpec := { name := "retainKeeps", fn := fun _ => fun
  | [d1, d2] => { results := [.lit (.bool true)], args := [d1, d2] }
  | _ => none }
def retainKeepsRow : OpenClaim := { program := "ytcblcjbflgepoaa", sum := "de678fa6e49db5f3ad9c7a22b11e2597cdab5e4ef334f9e1229d56520ce45bdd", func := "cellarer/cellarerlaw21.RetainKeeps", spec := "retainKeeps", unfollowed := true, recurses := true, apart := false }
def RetainKeepsSaid : Prop := retainKeepsRow.holds Try.pinned (OpenSpec.ofChange retainKeepsSpec)

/-- ITS FALSE NEIGHBOUR: 'it returns false'. Refute it at one input. -/
def retainKeepsWrong : ChangeSpec := { name := "retainKeeps", fn := fun _ => fun
  | [d1, d2] => { results := [.lit (.bool false)], args := [d1, d2] }
  | _ => none }
def RetainKeepsWrongFalsely : Prop := retainKeepsRow.holds Try.pinned (OpenSpec.ofChange retainKeepsWrong)

/-- 'cellarerlaw21.RetainAgain': WHATEVER THE INPUT: true; the input reads as it did. -/
def retainAgainSpec : ChangeSpec := { name := "retainAgain", fn := fun _ => fun
  | [d1, d2, d3] => { results := [.lit (.bool true)], args := [d1, d2, d3] }
  | _ => none }
def retainAgainRow : OpenClaim := { program := "ytcblcjbflgepoaa", sum := "de678fa6e49db5f3ad9c7a22b11e2597cdab5e4ef334f9e1229d56520ce45bdd", func := "cellarer/cellarerlaw21.RetainAgain", spec := "retainAgain", unfollowed := true, recurses := true, apart := false }
def RetainAgainSaid : Prop := retainAgainRow.holds Try.pinned (OpenSpec.ofChange retainAgainSpec)

/-- ITS FALSE NEIGHBOUR: 'it returns false'. Refute it at one input. -/
def retainAgainWrong : ChangeSpec := { name := "retainAgain", fn := fun _ => fun
  | [d1, d2, d3] => { results := [.lit (.bool false)], args := [d1, d2, d3] }
  | _ => none }
def RetainAgainWrongFalsely : Prop := retainAgainRow.holds Try.pinned (OpenSpec.ofChange retainAgainWrong)

/-- 'cellarerlaw21.RetainCounts': WHATEVER THE INPUT: true; the input reads as it did. -/
def retainCountsSpec : ChangeSpec := { name := "retainCounts", fn := fun _ => fun
  | [d1, d2] => { results := [.lit (.bool true)], args := [d1, d2] }
  | _ => none }
def retainCountsRow : OpenClaim := { program := "ytcblcjbflgepoaa", sum := "de678fa6e49db5f3ad9c7a22b11e2597cdab5e4ef334f9e1229d56520ce45bdd", func := "cellarer/cellarerlaw21.RetainCounts", spec := "retainCounts", unfollowed := true, recurses := true, apart := false }
def RetainCountsSaid : Prop := retainCountsRow.holds Try.pinned (OpenSpec.ofChange retainCountsSpec)

/-- ITS FALSE NEIGHBOUR: 'it returns false'. Refute it at one input. -/
def retainCountsWrong : ChangeSpec := { name := "retainCounts", fn := fun _ => fun
  | [d1, d2] => { results := [.lit (.bool false)], args := [d1, d2] }
  | _ => none }
def RetainCountsWrongFalsely : Prop := retainCountsRow.holds Try.pinned (OpenSpec.ofChange retainCountsWrong)

/-- 'cellarerlaw21.RetainOlder': WHATEVER THE INPUT: true; the input reads as it did. -/
def retainOlderSpec : ChangeSpec := { name := "retainOlder", fn := fun _ => fun
  | [d1, d2, d3] => { results := [.lit (.bool true)], args := [d1, d2, d3] }
  | _ => none }
def retainOlderRow : OpenClaim := { program := "ytcblcjbflgepoaa", sum := "de678fa6e49db5f3ad9c7a22b11e2597cdab5e4ef334f9e1229d56520ce45bdd", func := "cellarer/cellarerlaw21.RetainOlder", spec := "retainOlder", unfollowed := true, recurses := true, apart := false }
def RetainOlderSaid : Prop := retainOlderRow.holds Try.pinned (OpenSpec.ofChange retainOlderSpec)

/-- ITS FALSE NEIGHBOUR: 'it returns false'. Refute it at one input. -/
def retainOlderWrong : ChangeSpec := { name := "retainOlder", fn := fun _ => fun
  | [d1, d2, d3] => { results := [.lit (.bool false)], args := [d1, d2, d3] }
  | _ => none }
def RetainOlderWrongFalsely : Prop := retainOlderRow.holds Try.pinned (OpenSpec.ofChange retainOlderWrong)

/- THE SECOND FORM. 'bulk': how many values and letters a reading holds, each counted each time it is reached (what is shared counts as often as it is met; a slice's spare places count too). A statement '..UptoSaid' is the law's where the arguments, and the package variables that the reading takes, are together of bulk at most 1048576: NARROWER than '..Said'. Prove '..Said' where nothing that the law and all that it calls make is longer than what came in: it says more and counts as full. Else prove '..UptoSaid'. A law counts once. -/
mutual
def uptoBulk {H : Type} : DataW H → Nat
  | .lit (.string bytes) => bytes.length + 1
  | .lit _ => 1
  | .nil => 1
  | .ptr d => uptoBulk d + 1
  | .slice elems spare => uptoBulkAll elems + uptoBulkAll spare + 1
  | .agg parts => uptoBulkAll parts + 1
  | .iface _ d => uptoBulk d + 1
  | .map entries => uptoBulkEntries entries + 1
  | .held _ => 1
def uptoBulkAll {H : Type} : List (DataW H) → Nat
  | [] => 0
  | d :: r => uptoBulk d + uptoBulkAll r
def uptoBulkEntries {H : Type} : List (Lit × DataW H) → Nat
  | [] => 0
  | x :: r => uptoBulkEntry x + uptoBulkEntries r
def uptoBulkEntry {H : Type} : Lit × DataW H → Nat
  | (.string bytes, d) => bytes.length + uptoBulk d + 1
  | (_, d) => uptoBulk d + 1
 end
def uptoSmall : (H : Type) → List (DataW H) → Bool := fun _ ds => decide (uptoBulkAll ds ≤ 1048576)
def OpenSpec.upto (s : _root_.Go.ChangeSpec) : _root_.Go.OpenSpec := { _root_.Go.OpenSpec.ofChange s with cond := some uptoSmall }

/-- 'cellarerlaw20.DaysNumbers', WHERE WHAT IT READS IS OF BULK AT MOST 1048576: true; the input reads as it did. -/
def daysNumbersUptoRow : OpenClaim := { program := "ytcblcjbflgepoaa", sum := "de678fa6e49db5f3ad9c7a22b11e2597cdab5e4ef334f9e1229d56520ce45bdd", func := "cellarer/cellarerlaw20.DaysNumbers", spec := "daysNumbers", apart := false, narrowed := true }
def DaysNumbersUptoSaid : Prop := daysNumbersUptoRow.holds Try.pinned (OpenSpec.upto daysNumbersSpec)

/-- 'cellarerlaw20.DaysGo', WHERE WHAT IT READS IS OF BULK AT MOST 1048576: true; the input reads as it did. -/
def daysGoUptoRow : OpenClaim := { program := "ytcblcjbflgepoaa", sum := "de678fa6e49db5f3ad9c7a22b11e2597cdab5e4ef334f9e1229d56520ce45bdd", func := "cellarer/cellarerlaw20.DaysGo", spec := "daysGo", apart := false, narrowed := true }
def DaysGoUptoSaid : Prop := daysGoUptoRow.holds Try.pinned (OpenSpec.upto daysGoSpec)

/-- 'cellarerlaw20.DaysDates', WHERE WHAT IT READS IS OF BULK AT MOST 1048576: true; the input reads as it did. -/
def daysDatesUptoRow : OpenClaim := { program := "ytcblcjbflgepoaa", sum := "de678fa6e49db5f3ad9c7a22b11e2597cdab5e4ef334f9e1229d56520ce45bdd", func := "cellarer/cellarerlaw20.DaysDates", spec := "daysDates", apart := false, narrowed := true }
def DaysDatesUptoSaid : Prop := daysDatesUptoRow.holds Try.pinned (OpenSpec.upto daysDatesSpec)

/-- 'cellarerlaw20.DaysFour', WHERE WHAT IT READS IS OF BULK AT MOST 1048576: true; the input reads as it did. -/
def daysFourUptoRow : OpenClaim := { program := "ytcblcjbflgepoaa", sum := "de678fa6e49db5f3ad9c7a22b11e2597cdab5e4ef334f9e1229d56520ce45bdd", func := "cellarer/cellarerlaw20.DaysFour", spec := "daysFour", apart := false, narrowed := true }
def DaysFourUptoSaid : Prop := daysFourUptoRow.holds Try.pinned (OpenSpec.upto daysFourSpec)

/-- 'cellarerlaw21.RetainKeeps', WHERE WHAT IT READS IS OF BULK AT MOST 1048576: true; the input reads as it did. -/
def retainKeepsUptoRow : OpenClaim := { program := "ytcblcjbflgepoaa", sum := "de678fa6e49db5f3ad9c7a22b11e2597cdab5e4ef334f9e1229d56520ce45bdd", func := "cellarer/cellarerlaw21.RetainKeeps", spec := "retainKeeps", unfollowed := true, recurses := true, apart := false, narrowed := true }
def RetainKeepsUptoSaid : Prop := retainKeepsUptoRow.holds Try.pinned (OpenSpec.upto retainKeepsSpec)

/-- 'cellarerlaw21.RetainAgain', WHERE WHAT IT READS IS OF BULK AT MOST 1048576: true; the input reads as it did. -/
def retainAgainUptoRow : OpenClaim := { program := "ytcblcjbflgepoaa", sum := "de678fa6e49db5f3ad9c7a22b11e2597cdab5e4ef334f9e1229d56520ce45bdd", func := "cellarer/cellarerlaw21.RetainAgain", spec := "retainAgain", unfollowed := true, recurses := true, apart := false, narrowed := true }
def RetainAgainUptoSaid : Prop := retainAgainUptoRow.holds Try.pinned (OpenSpec.upto retainAgainSpec)

/-- 'cellarerlaw21.RetainCounts', WHERE WHAT IT READS IS OF BULK AT MOST 1048576: true; the input reads as it did. -/
def retainCountsUptoRow : OpenClaim := { program := "ytcblcjbflgepoaa", sum := "de678fa6e49db5f3ad9c7a22b11e2597cdab5e4ef334f9e1229d56520ce45bdd", func := "cellarer/cellarerlaw21.RetainCounts", spec := "retainCounts", unfollowed := true, recurses := true, apart := false, narrowed := true }
def RetainCountsUptoSaid : Prop := retainCountsUptoRow.holds Try.pinned (OpenSpec.upto retainCountsSpec)

/-- 'cellarerlaw21.RetainOlder', WHERE WHAT IT READS IS OF BULK AT MOST 1048576: true; the input reads as it did. -/
def retainOlderUptoRow : OpenClaim := { program := "ytcblcjbflgepoaa", sum := "de678fa6e49db5f3ad9c7a22b11e2597cdab5e4ef334f9e1229d56520ce45bdd", func := "cellarer/cellarerlaw21.RetainOlder", spec := "retainOlder", unfollowed := true, recurses := true, apart := false, narrowed := true }
def RetainOlderUptoSaid : Prop := retainOlderUptoRow.holds Try.pinned (OpenSpec.upto retainOlderSpec)

end Rows
end Go.Proofs.Ytcblcjbflgepoaa
