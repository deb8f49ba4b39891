/- What a sink's calls leave alone. Conditions: none. -/
import Derived.Test.YtahgeeklenojjaaSinkT
import Derived.Test.YtahgeeklenojjaaTreeM
namespace Go.Proofs.Ytahgeeklenojjaa
open Go.RowKit
set_option maxRecDepth 100000

/-- Blocks of other types are left alone. -/
def KeepT (W W' : World) : Prop := ∀ B t cs, t ≠ 36 → t ≠ 5 → Blk W B t cs → Blk W' B t cs
theorem KeepT.trans {W W1 W2 : World} (h : KeepT W W1) (k : KeepT W1 W2) : KeepT W W2 := fun B t cs h1 h2 h3 => k B t cs h1 h2 (h B t cs h1 h2 h3)
theorem KeepT.below {W W' : World} (h : Below W.heap.size W W') : KeepT W W' := fun _ _ _ _ _ h3 => h3.below h h3.lt
theorem pk_ne {w : World} {A P t u : Nat} {cs ds : Array Value} (h : Blk w A t cs) (k : Blk w P u ds) (hne : t ≠ u) : A ≠ P := by
  rintro rfl
  have h1 : w.heap[A]? = some (.cells cs t) := h
  have h2 : w.heap[A]? = some (.cells ds u) := k
  rw [h1] at h2
  simp only [Option.some.injEq, Obj.cells.injEq] at h2
  exact hne h2.2.1
theorem pk_row {w : World} {b e s n A t : Nat} {v : Value} {x : List Value} {cs : Array Value} (h : w.ownsRow b e s v n x) (hB : Blk w A t cs) (hne : e ≠ t) : v.ownBlock ≠ some A := by
  rcases trow_blk h hB hne with e | e
  · rw [e]; simp
  · exact e
theorem pk_keep {W W' : World} {P V c : Nat} {v : Value} (hS : SinkAt W P v V c) (hc : Chg W W' P v) : KeepT W W' := fun A _ _ h1 h2 h3 =>
  (hc.2.2 A h3.lt (pk_ne h3 hS.1 h1) (pk_row hS.2.1 h3 (Ne.symm h2))).trans h3
end Go.Proofs.Ytahgeeklenojjaa
