/-
  No cell of these rows narrows 'for every input' (looked for: loops, veiled, ifaces, maps, wideKeys, modest, calm, conditions, laid).
  DERIVED. THE GIVEN ROWS OF THIS SEAT. 14 by the template 'for every input the law returns true; each argument reads behind the call as it read before'; 0 by the template 'total and deterministic' (their statements: YtjnglahjngiofaaTotals.lean).
  GIVEN WITH THE SEED: the statements are not yours to turn. If you find one false, say at which input.
  Laid BY PROGRAM, IN A SANDBOX (cutbox-rows.mjs): the forced cells as the released guide's own fill.sh prints them over the translation d4f1e41dd2b1e98a… (all of the seat's roots in one cut). By AI agents, Wed Nov 11 2026. No macro, syntax, notation, axiom, sorry.
-/
import Derived.Test.YtjnglahjngiofaaChecked
import GoSem.Claim
import GoSem.ClaimJoined
import GoSem.ClaimMapViews
import Derived.JoinedTies
import Derived.KernelRfl
namespace Go.Proofs.Ytjnglahjngiofaa
/- THE CELL 'sum', in the pinned program and in every row, IS THE sha256 OF THE DUMP (.gsa) THAT YtjnglahjngiofaaProg.lean LOADS. Nothing in Lean hashes anything: it is a label: what it is worth is what the hold of that sum in a sandbox is worth. -/
noncomputable def Try.pinned : Pinned := { name := "ytjnglahjngiofaa", sum := "d4f1e41dd2b1e98ac60ceae68a1f53da415f05613d0be26532fb289ac5b75ee9", checked := Try.checked }
namespace Rows
def none {H : Type} : Left H := { results := [], args := [] }

/-- 'cellarerlaw07.DeflateSteps': WHATEVER THE INPUT: true; the input reads as it did. -/
def deflateStepsSpec : ChangeSpec := { name := "deflateSteps", fn := fun _ => fun
  | [d] => { results := [.lit (.bool true)], args := [d] }
  | _ => none }
def deflateStepsRow : OpenClaim := { program := "ytjnglahjngiofaa", sum := "d4f1e41dd2b1e98ac60ceae68a1f53da415f05613d0be26532fb289ac5b75ee9", func := "cellarer/cellarerlaw07.DeflateSteps", spec := "deflateSteps", apart := false }
def DeflateStepsSaid : Prop := deflateStepsRow.holds Try.pinned (OpenSpec.ofChange deflateStepsSpec)

/-- ITS FALSE NEIGHBOUR: 'it returns false'. Refute it at one input. -/
def deflateStepsWrong : ChangeSpec := { name := "deflateSteps", fn := fun _ => fun
  | [d] => { results := [.lit (.bool false)], args := [d] }
  | _ => none }
def DeflateStepsWrongFalsely : Prop := deflateStepsRow.holds Try.pinned (OpenSpec.ofChange deflateStepsWrong)

/-- 'cellarerlaw05.MatchExpands': WHATEVER THE INPUT: true; the input reads as it did. -/
def matchExpandsSpec : ChangeSpec := { name := "matchExpands", fn := fun _ => fun
  | [d1, d2] => { results := [.lit (.bool true)], args := [d1, d2] }
  | _ => none }
def matchExpandsRow : OpenClaim := { program := "ytjnglahjngiofaa", sum := "d4f1e41dd2b1e98ac60ceae68a1f53da415f05613d0be26532fb289ac5b75ee9", func := "cellarer/cellarerlaw05.MatchExpands", spec := "matchExpands", apart := false }
def MatchExpandsSaid : Prop := matchExpandsRow.holds Try.pinned (OpenSpec.ofChange matchExpandsSpec)

/-- ITS FALSE NEIGHBOUR: 'it returns false'. Refute it at one input. -/
def matchExpandsWrong : ChangeSpec := { name := "matchExpands", fn := fun _ => fun
  | [d1, d2] => { results := [.lit (.bool false)], args := [d1, d2] }
  | _ => none }
def MatchExpandsWrongFalsely : Prop := matchExpandsRow.holds Try.pinned (OpenSpec.ofChange matchExpandsWrong)

/-- 'cellarerlaw05.MatchTokens': WHATEVER THE INPUT: true; the input reads as it did. -/
def matchTokensSpec : ChangeSpec := { name := "matchTokens", fn := fun _ => fun
  | [d1, d2] => { results := [.lit (.bool true)], args := [d1, d2] }
  | _ => none }
def matchTokensRow : OpenClaim := { program := "ytjnglahjngiofaa", sum := "d4f1e41dd2b1e98ac60ceae68a1f53da415f05613d0be26532fb289ac5b75ee9", func := "cellarer/cellarerlaw05.MatchTokens", spec := "matchTokens", apart := false }
def MatchTokensSaid : Prop := matchTokensRow.holds Try.pinned (OpenSpec.ofChange matchTokensSpec)

/-- ITS FALSE NEIGHBOUR: 'it returns false'. Refute it at one input. -/
def matchTokensWrong : ChangeSpec := { name := "matchTokens", fn := fun _ => fun
  | [d1, d2] => { results := [.lit (.bool false)], args := [d1, d2] }
  | _ => none }
def MatchTokensWrongFalsely : Prop := matchTokensRow.holds Try.pinned (OpenSpec.ofChange matchTokensWrong)

/-- 'cellarerlaw05.MatchRuns': WHATEVER THE INPUT: true; the input reads as it did. -/
def matchRunsSpec : ChangeSpec := { name := "matchRuns", fn := fun _ => fun
  | [d1, d2, d3] => { results := [.lit (.bool true)], args := [d1, d2, d3] }
  | _ => none }
def matchRunsRow : OpenClaim := { program := "ytjnglahjngiofaa", sum := "d4f1e41dd2b1e98ac60ceae68a1f53da415f05613d0be26532fb289ac5b75ee9", func := "cellarer/cellarerlaw05.MatchRuns", spec := "matchRuns", apart := false }
def MatchRunsSaid : Prop := matchRunsRow.holds Try.pinned (OpenSpec.ofChange matchRunsSpec)

/-- ITS FALSE NEIGHBOUR: 'it returns false'. Refute it at one input. -/
def matchRunsWrong : ChangeSpec := { name := "matchRuns", fn := fun _ => fun
  | [d1, d2, d3] => { results := [.lit (.bool false)], args := [d1, d2, d3] }
  | _ => none }
def MatchRunsWrongFalsely : Prop := matchRunsRow.holds Try.pinned (OpenSpec.ofChange matchRunsWrong)

/-- 'cellarerlaw05.MatchLevels': WHATEVER THE INPUT: true; the input reads as it did. -/
def matchLevelsSpec : ChangeSpec := { name := "matchLevels", fn := fun _ => fun
  | [d] => { results := [.lit (.bool true)], args := [d] }
  | _ => none }
def matchLevelsRow : OpenClaim := { program := "ytjnglahjngiofaa", sum := "d4f1e41dd2b1e98ac60ceae68a1f53da415f05613d0be26532fb289ac5b75ee9", func := "cellarer/cellarerlaw05.MatchLevels", spec := "matchLevels", apart := false }
def MatchLevelsSaid : Prop := matchLevelsRow.holds Try.pinned (OpenSpec.ofChange matchLevelsSpec)

/-- ITS FALSE NEIGHBOUR: 'it returns false'. Refute it at one input. -/
def matchLevelsWrong : ChangeSpec := { name := "matchLevels", fn := fun _ => fun
  | [d] => { results := [.lit (.bool false)], args := [d] }
  | _ => none }
def MatchLevelsWrongFalsely : Prop := matchLevelsRow.holds Try.pinned (OpenSpec.ofChange matchLevelsWrong)

/-- 'cellarerlaw06.InflateBlocks': WHATEVER THE INPUT: true; the input reads as it did. -/
def inflateBlocksSpec : ChangeSpec := { name := "inflateBlocks", fn := fun _ => fun
  | [d1, d2, d3] => { results := [.lit (.bool true)], args := [d1, d2, d3] }
  | _ => none }
def inflateBlocksRow : OpenClaim := { program := "ytjnglahjngiofaa", sum := "d4f1e41dd2b1e98ac60ceae68a1f53da415f05613d0be26532fb289ac5b75ee9", func := "cellarer/cellarerlaw06.InflateBlocks", spec := "inflateBlocks", apart := false }
def InflateBlocksSaid : Prop := inflateBlocksRow.holds Try.pinned (OpenSpec.ofChange inflateBlocksSpec)

/-- ITS FALSE NEIGHBOUR: 'it returns false'. Refute it at one input. -/
def inflateBlocksWrong : ChangeSpec := { name := "inflateBlocks", fn := fun _ => fun
  | [d1, d2, d3] => { results := [.lit (.bool false)], args := [d1, d2, d3] }
  | _ => none }
def InflateBlocksWrongFalsely : Prop := inflateBlocksRow.holds Try.pinned (OpenSpec.ofChange inflateBlocksWrong)

/-- 'cellarerlaw06.InflateSizes': WHATEVER THE INPUT: true; the input reads as it did. -/
def inflateSizesSpec : ChangeSpec := { name := "inflateSizes", fn := fun _ => fun
  | [d] => { results := [.lit (.bool true)], args := [d] }
  | _ => none }
def inflateSizesRow : OpenClaim := { program := "ytjnglahjngiofaa", sum := "d4f1e41dd2b1e98ac60ceae68a1f53da415f05613d0be26532fb289ac5b75ee9", func := "cellarer/cellarerlaw06.InflateSizes", spec := "inflateSizes", apart := false }
def InflateSizesSaid : Prop := inflateSizesRow.holds Try.pinned (OpenSpec.ofChange inflateSizesSpec)

/-- ITS FALSE NEIGHBOUR: 'it returns false'. Refute it at one input. -/
def inflateSizesWrong : ChangeSpec := { name := "inflateSizes", fn := fun _ => fun
  | [d] => { results := [.lit (.bool false)], args := [d] }
  | _ => none }
def InflateSizesWrongFalsely : Prop := inflateSizesRow.holds Try.pinned (OpenSpec.ofChange inflateSizesWrong)

/-- 'cellarerlaw06.InflateAnywhere': WHATEVER THE INPUT: true; the input reads as it did. -/
def inflateAnywhereSpec : ChangeSpec := { name := "inflateAnywhere", fn := fun _ => fun
  | [d1, d2, d3] => { results := [.lit (.bool true)], args := [d1, d2, d3] }
  | _ => none }
def inflateAnywhereRow : OpenClaim := { program := "ytjnglahjngiofaa", sum := "d4f1e41dd2b1e98ac60ceae68a1f53da415f05613d0be26532fb289ac5b75ee9", func := "cellarer/cellarerlaw06.InflateAnywhere", spec := "inflateAnywhere", apart := false }
def InflateAnywhereSaid : Prop := inflateAnywhereRow.holds Try.pinned (OpenSpec.ofChange inflateAnywhereSpec)

/-- ITS FALSE NEIGHBOUR: 'it returns false'. Refute it at one input. -/
def inflateAnywhereWrong : ChangeSpec := { name := "inflateAnywhere", fn := fun _ => fun
  | [d1, d2, d3] => { results := [.lit (.bool false)], args := [d1, d2, d3] }
  | _ => none }
def InflateAnywhereWrongFalsely : Prop := inflateAnywhereRow.holds Try.pinned (OpenSpec.ofChange inflateAnywhereWrong)

/-- 'cellarerlaw06.InflateCut': WHATEVER THE INPUT: true; the input reads as it did. -/
def inflateCutSpec : ChangeSpec := { name := "inflateCut", fn := fun _ => fun
  | [d1, d2, d3] => { results := [.lit (.bool true)], args := [d1, d2, d3] }
  | _ => none }
def inflateCutRow : OpenClaim := { program := "ytjnglahjngiofaa", sum := "d4f1e41dd2b1e98ac60ceae68a1f53da415f05613d0be26532fb289ac5b75ee9", func := "cellarer/cellarerlaw06.InflateCut", spec := "inflateCut", apart := false }
def InflateCutSaid : Prop := inflateCutRow.holds Try.pinned (OpenSpec.ofChange inflateCutSpec)

/-- ITS FALSE NEIGHBOUR: 'it returns false'. Refute it at one input. -/
def inflateCutWrong : ChangeSpec := { name := "inflateCut", fn := fun _ => fun
  | [d1, d2, d3] => { results := [.lit (.bool false)], args := [d1, d2, d3] }
  | _ => none }
def InflateCutWrongFalsely : Prop := inflateCutRow.holds Try.pinned (OpenSpec.ofChange inflateCutWrong)

/-- 'cellarerlaw06.InflateLong': WHATEVER THE INPUT: true; the input reads as it did. -/
def inflateLongSpec : ChangeSpec := { name := "inflateLong", fn := fun _ => fun
  | [d1, d2] => { results := [.lit (.bool true)], args := [d1, d2] }
  | _ => none }
def inflateLongRow : OpenClaim := { program := "ytjnglahjngiofaa", sum := "d4f1e41dd2b1e98ac60ceae68a1f53da415f05613d0be26532fb289ac5b75ee9", func := "cellarer/cellarerlaw06.InflateLong", spec := "inflateLong", apart := false }
def InflateLongSaid : Prop := inflateLongRow.holds Try.pinned (OpenSpec.ofChange inflateLongSpec)

/-- ITS FALSE NEIGHBOUR: 'it returns false'. Refute it at one input. -/
def inflateLongWrong : ChangeSpec := { name := "inflateLong", fn := fun _ => fun
  | [d1, d2] => { results := [.lit (.bool false)], args := [d1, d2] }
  | _ => none }
def InflateLongWrongFalsely : Prop := inflateLongRow.holds Try.pinned (OpenSpec.ofChange inflateLongWrong)

/-- 'cellarerlaw07.DeflateBack': WHATEVER THE INPUT: true; the input reads as it did. -/
def deflateBackSpec : ChangeSpec := { name := "deflateBack", fn := fun _ => fun
  | [d1, d2] => { results := [.lit (.bool true)], args := [d1, d2] }
  | _ => none }
def deflateBackRow : OpenClaim := { program := "ytjnglahjngiofaa", sum := "d4f1e41dd2b1e98ac60ceae68a1f53da415f05613d0be26532fb289ac5b75ee9", func := "cellarer/cellarerlaw07.DeflateBack", spec := "deflateBack", unfollowed := true, recurses := true, apart := false }
def DeflateBackSaid : Prop := deflateBackRow.holds Try.pinned (OpenSpec.ofChange deflateBackSpec)

/-- ITS FALSE NEIGHBOUR: 'it returns false'. Refute it at one input. -/
def deflateBackWrong : ChangeSpec := { name := "deflateBack", fn := fun _ => fun
  | [d1, d2] => { results := [.lit (.bool false)], args := [d1, d2] }
  | _ => none }
def DeflateBackWrongFalsely : Prop := deflateBackRow.holds Try.pinned (OpenSpec.ofChange deflateBackWrong)

/-- 'cellarerlaw07.DeflateRuns': WHATEVER THE INPUT: true; the input reads as it did. -/
def deflateRunsSpec : ChangeSpec := { name := "deflateRuns", fn := fun _ => fun
  | [d1, d2, d3] => { results := [.lit (.bool true)], args := [d1, d2, d3] }
  | _ => none }
def deflateRunsRow : OpenClaim := { program := "ytjnglahjngiofaa", sum := "d4f1e41dd2b1e98ac60ceae68a1f53da415f05613d0be26532fb289ac5b75ee9", func := "cellarer/cellarerlaw07.DeflateRuns", spec := "deflateRuns", unfollowed := true, recurses := true, apart := false }
def DeflateRunsSaid : Prop := deflateRunsRow.holds Try.pinned (OpenSpec.ofChange deflateRunsSpec)

/-- ITS FALSE NEIGHBOUR: 'it returns false'. Refute it at one input. -/
def deflateRunsWrong : ChangeSpec := { name := "deflateRuns", fn := fun _ => fun
  | [d1, d2, d3] => { results := [.lit (.bool false)], args := [d1, d2, d3] }
  | _ => none }
def DeflateRunsWrongFalsely : Prop := deflateRunsRow.holds Try.pinned (OpenSpec.ofChange deflateRunsWrong)

/-- 'cellarerlaw07.DeflateMoves': WHATEVER THE INPUT: true; the input reads as it did. -/
def deflateMovesSpec : ChangeSpec := { name := "deflateMoves", fn := fun _ => fun
  | [d1, d2, d3, d4, d5] => { results := [.lit (.bool true)], args := [d1, d2, d3, d4, d5] }
  | _ => none }
def deflateMovesRow : OpenClaim := { program := "ytjnglahjngiofaa", sum := "d4f1e41dd2b1e98ac60ceae68a1f53da415f05613d0be26532fb289ac5b75ee9", func := "cellarer/cellarerlaw07.DeflateMoves", spec := "deflateMoves", unfollowed := true, recurses := true, apart := false }
def DeflateMovesSaid : Prop := deflateMovesRow.holds Try.pinned (OpenSpec.ofChange deflateMovesSpec)

/-- ITS FALSE NEIGHBOUR: 'it returns false'. Refute it at one input. -/
def deflateMovesWrong : ChangeSpec := { name := "deflateMoves", fn := fun _ => fun
  | [d1, d2, d3, d4, d5] => { results := [.lit (.bool false)], args := [d1, d2, d3, d4, d5] }
  | _ => none }
def DeflateMovesWrongFalsely : Prop := deflateMovesRow.holds Try.pinned (OpenSpec.ofChange deflateMovesWrong)

/-- 'cellarertop.CellarerRepeats': WHATEVER THE INPUT: true; the input reads as it did. -/
def cellarerRepeatsSpec : ChangeSpec := { name := "cellarerRepeats", fn := fun _ => fun
  | [d1, d2] => { results := [.lit (.bool true)], args := [d1, d2] }
  | _ => none }
def cellarerRepeatsRow : OpenClaim := { program := "ytjnglahjngiofaa", sum := "d4f1e41dd2b1e98ac60ceae68a1f53da415f05613d0be26532fb289ac5b75ee9", func := "cellarer/cellarertop.CellarerRepeats", spec := "cellarerRepeats", apart := false }
def CellarerRepeatsSaid : Prop := cellarerRepeatsRow.holds Try.pinned (OpenSpec.ofChange cellarerRepeatsSpec)

/-- ITS FALSE NEIGHBOUR: 'it returns false'. Refute it at one input. -/
def cellarerRepeatsWrong : ChangeSpec := { name := "cellarerRepeats", fn := fun _ => fun
  | [d1, d2] => { results := [.lit (.bool false)], args := [d1, d2] }
  | _ => none }
def CellarerRepeatsWrongFalsely : Prop := cellarerRepeatsRow.holds Try.pinned (OpenSpec.ofChange cellarerRepeatsWrong)

/- THE SECOND FORM. 'bulk': how many values and letters a reading holds, each counted each time it is reached (what is shared counts as often as it is met; a slice's spare places count too). A statement '..UptoSaid' is the law's where the arguments, and the package variables that the reading takes, are together of bulk at most 1048576: NARROWER than '..Said'. Prove '..Said' where nothing that the law and all that it calls make is longer than what came in: it says more and counts as full. Else prove '..UptoSaid'. A law counts once. -/
mutual
def uptoBulk {H : Type} : DataW H → Nat
  | .lit (.string bytes) => bytes.length + 1
  | .lit _ => 1
  | .nil => 1
  | .ptr d => uptoBulk d + 1
  | .slice elems spare => uptoBulkAll elems + uptoBulkAll spare + 1
  | .agg parts => uptoBulkAll parts + 1
  | .iface _ d => uptoBulk d + 1
  | .map entries => uptoBulkEntries entries + 1
  | .held _ => 1
def uptoBulkAll {H : Type} : List (DataW H) → Nat
  | [] => 0
  | d :: r => uptoBulk d + uptoBulkAll r
def uptoBulkEntries {H : Type} : List (Lit × DataW H) → Nat
  | [] => 0
  | x :: r => uptoBulkEntry x + uptoBulkEntries r
def uptoBulkEntry {H : Type} : Lit × DataW H → Nat
  | (.string bytes, d) => bytes.length + uptoBulk d + 1
  | (_, d) => uptoBulk d + 1
 end
def uptoSmall : (H : Type) → List (DataW H) → Bool := fun _ ds => decide (uptoBulkAll ds ≤ 1048576)
def OpenSpec.upto (s : _root_.Go.ChangeSpec) : _root_.Go.OpenSpec := { _root_.Go.OpenSpec.ofChange s with cond := some uptoSmall }

/-- 'cellarerlaw07.DeflateSteps', WHERE WHAT IT READS IS OF BULK AT MOST 1048576: true; the input reads as it did. -/
def deflateStepsUptoRow : OpenClaim := { program := "ytjnglahjngiofaa", sum := "d4f1e41dd2b1e98ac60ceae68a1f53da415f05613d0be26532fb289ac5b75ee9", func := "cellarer/cellarerlaw07.DeflateSteps", spec := "deflateSteps", apart := false, narrowed := true }
def DeflateStepsUptoSaid : Prop := deflateStepsUptoRow.holds Try.pinned (OpenSpec.upto deflateStepsSpec)

/-- 'cellarerlaw05.MatchExpands', WHERE WHAT IT READS IS OF BULK AT MOST 1048576: true; the input reads as it did. -/
def matchExpandsUptoRow : OpenClaim := { program := "ytjnglahjngiofaa", sum := "d4f1e41dd2b1e98ac60ceae68a1f53da415f05613d0be26532fb289ac5b75ee9", func := "cellarer/cellarerlaw05.MatchExpands", spec := "matchExpands", apart := false, narrowed := true }
def MatchExpandsUptoSaid : Prop := matchExpandsUptoRow.holds Try.pinned (OpenSpec.upto matchExpandsSpec)

/-- 'cellarerlaw05.MatchTokens', WHERE WHAT IT READS IS OF BULK AT MOST 1048576: true; the input reads as it did. -/
def matchTokensUptoRow : OpenClaim := { program := "ytjnglahjngiofaa", sum := "d4f1e41dd2b1e98ac60ceae68a1f53da415f05613d0be26532fb289ac5b75ee9", func := "cellarer/cellarerlaw05.MatchTokens", spec := "matchTokens", apart := false, narrowed := true }
def MatchTokensUptoSaid : Prop := matchTokensUptoRow.holds Try.pinned (OpenSpec.upto matchTokensSpec)

/-- 'cellarerlaw05.MatchRuns', WHERE WHAT IT READS IS OF BULK AT MOST 1048576: true; the input reads as it did. -/
def matchRunsUptoRow : OpenClaim := { program := "ytjnglahjngiofaa", sum := "d4f1e41dd2b1e98ac60ceae68a1f53da415f05613d0be26532fb289ac5b75ee9", func := "cellarer/cellarerlaw05.MatchRuns", spec := "matchRuns", apart := false, narrowed := true }
def MatchRunsUptoSaid : Prop := matchRunsUptoRow.holds Try.pinned (OpenSpec.upto matchRunsSpec)

/-- 'cellarerlaw05.MatchLevels', WHERE WHAT IT READS IS OF BULK AT MOST 1048576: true; the input reads as it did. -/
def matchLevelsUptoRow : OpenClaim := { program := "ytjnglahjngiofaa", sum := "d4f1e41dd2b1e98ac60ceae68a1f53da415f05613d0be26532fb289ac5b75ee9", func := "cellarer/cellarerlaw05.MatchLevels", spec := "matchLevels", apart := false, narrowed := true }
def MatchLevelsUptoSaid : Prop := matchLevelsUptoRow.holds Try.pinned (OpenSpec.upto matchLevelsSpec)

/-- 'cellarerlaw06.InflateBlocks', WHERE WHAT IT READS IS OF BULK AT MOST 1048576: true; the input reads as it did. -/
def inflateBlocksUptoRow : OpenClaim := { program := "ytjnglahjngiofaa", sum := "d4f1e41dd2b1e98ac60ceae68a1f53da415f05613d0be26532fb289ac5b75ee9", func := "cellarer/cellarerlaw06.InflateBlocks", spec := "inflateBlocks", apart := false, narrowed := true }
def InflateBlocksUptoSaid : Prop := inflateBlocksUptoRow.holds Try.pinned (OpenSpec.upto inflateBlocksSpec)

/-- 'cellarerlaw06.InflateSizes', WHERE WHAT IT READS IS OF BULK AT MOST 1048576: true; the input reads as it did. -/
def inflateSizesUptoRow : OpenClaim := { program := "ytjnglahjngiofaa", sum := "d4f1e41dd2b1e98ac60ceae68a1f53da415f05613d0be26532fb289ac5b75ee9", func := "cellarer/cellarerlaw06.InflateSizes", spec := "inflateSizes", apart := false, narrowed := true }
def InflateSizesUptoSaid : Prop := inflateSizesUptoRow.holds Try.pinned (OpenSpec.upto inflateSizesSpec)

/-- 'cellarerlaw06.InflateAnywhere', WHERE WHAT IT READS IS OF BULK AT MOST 1048576: true; the input reads as it did. -/
def inflateAnywhereUptoRow : OpenClaim := { program := "ytjnglahjngiofaa", sum := "d4f1e41dd2b1e98ac60ceae68a1f53da415f05613d0be26532fb289ac5b75ee9", func := "cellarer/cellarerlaw06.InflateAnywhere", spec := "inflateAnywhere", apart := false, narrowed := true }
def InflateAnywhereUptoSaid : Prop := inflateAnywhereUptoRow.holds Try.pinned (OpenSpec.upto inflateAnywhereSpec)

/-- 'cellarerlaw06.InflateCut', WHERE WHAT IT READS IS OF BULK AT MOST 1048576: true; the input reads as it did. -/
def inflateCutUptoRow : OpenClaim := { program := "ytjnglahjngiofaa", sum := "d4f1e41dd2b1e98ac60ceae68a1f53da415f05613d0be26532fb289ac5b75ee9", func := "cellarer/cellarerlaw06.InflateCut", spec := "inflateCut", apart := false, narrowed := true }
def InflateCutUptoSaid : Prop := inflateCutUptoRow.holds Try.pinned (OpenSpec.upto inflateCutSpec)

/-- 'cellarerlaw06.InflateLong', WHERE WHAT IT READS IS OF BULK AT MOST 1048576: true; the input reads as it did. -/
def inflateLongUptoRow : OpenClaim := { program := "ytjnglahjngiofaa", sum := "d4f1e41dd2b1e98ac60ceae68a1f53da415f05613d0be26532fb289ac5b75ee9", func := "cellarer/cellarerlaw06.InflateLong", spec := "inflateLong", apart := false, narrowed := true }
def InflateLongUptoSaid : Prop := inflateLongUptoRow.holds Try.pinned (OpenSpec.upto inflateLongSpec)

/-- 'cellarerlaw07.DeflateBack', WHERE WHAT IT READS IS OF BULK AT MOST 1048576: true; the input reads as it did. -/
def deflateBackUptoRow : OpenClaim := { program := "ytjnglahjngiofaa", sum := "d4f1e41dd2b1e98ac60ceae68a1f53da415f05613d0be26532fb289ac5b75ee9", func := "cellarer/cellarerlaw07.DeflateBack", spec := "deflateBack", unfollowed := true, recurses := true, apart := false, narrowed := true }
def DeflateBackUptoSaid : Prop := deflateBackUptoRow.holds Try.pinned (OpenSpec.upto deflateBackSpec)

/-- 'cellarerlaw07.DeflateRuns', WHERE WHAT IT READS IS OF BULK AT MOST 1048576: true; the input reads as it did. -/
def deflateRunsUptoRow : OpenClaim := { program := "ytjnglahjngiofaa", sum := "d4f1e41dd2b1e98ac60ceae68a1f53da415f05613d0be26532fb289ac5b75ee9", func := "cellarer/cellarerlaw07.DeflateRuns", spec := "deflateRuns", unfollowed := true, recurses := true, apart := false, narrowed := true }
def DeflateRunsUptoSaid : Prop := deflateRunsUptoRow.holds Try.pinned (OpenSpec.upto deflateRunsSpec)

/-- 'cellarerlaw07.DeflateMoves', WHERE WHAT IT READS IS OF BULK AT MOST 1048576: true; the input reads as it did. -/
def deflateMovesUptoRow : OpenClaim := { program := "ytjnglahjngiofaa", sum := "d4f1e41dd2b1e98ac60ceae68a1f53da415f05613d0be26532fb289ac5b75ee9", func := "cellarer/cellarerlaw07.DeflateMoves", spec := "deflateMoves", unfollowed := true, recurses := true, apart := false, narrowed := true }
def DeflateMovesUptoSaid : Prop := deflateMovesUptoRow.holds Try.pinned (OpenSpec.upto deflateMovesSpec)

/-- 'cellarertop.CellarerRepeats', WHERE WHAT IT READS IS OF BULK AT MOST 1048576: true; the input reads as it did. -/
def cellarerRepeatsUptoRow : OpenClaim := { program := "ytjnglahjngiofaa", sum := "d4f1e41dd2b1e98ac60ceae68a1f53da415f05613d0be26532fb289ac5b75ee9", func := "cellarer/cellarertop.CellarerRepeats", spec := "cellarerRepeats", apart := false, narrowed := true }
def CellarerRepeatsUptoSaid : Prop := cellarerRepeatsUptoRow.holds Try.pinned (OpenSpec.upto cellarerRepeatsSpec)

end Rows
end Go.Proofs.Ytjnglahjngiofaa
