/- A block more. Conditions: none. -/
import Derived.Test.YtahgeeklenojjaaBase
namespace Go.Proofs.Ytahgeeklenojjaa
open Go.RowKit

theorem below_new {w w1 : World} {o : Obj} (h : Below (w.alloc o).heap.size (w.alloc o) w1) : Below w.heap.size w w1 :=
  ((Below.refl w.heap.size w).alloc (Nat.le_refl _) o).trans (h.mono (by simp))
theorem size_new (w : World) (o : Obj) : (w.alloc o).heap.size = w.heap.size + 1 := by simp
end Go.Proofs.Ytahgeeklenojjaa
