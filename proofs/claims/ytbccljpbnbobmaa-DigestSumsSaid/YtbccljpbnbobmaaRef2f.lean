/- The document's Table of layer 2. Conditions: none. -/
import Derived.Test.YtbccljpbnbobmaaRef2e
import Derived.Test.YtbccljpbnbobmaaPrimes
namespace Go.Proofs.Ytbccljpbnbobmaa
open Go.RowKit
set_option maxRecDepth 100000

set_option maxHeartbeats 4000000 in
theorem table2_any (w : World) : Calls Try.prog 46 #[] w fun e w' => ∃ g1 g2, e = .returned (.tuple #[.slice (some ⟨g1, 0, none⟩) 8 8, .slice (some ⟨g2, 0, none⟩) 64 64]) ∧ Blk w' g1 35 (ucl (tabL.take 8)).toArray ∧ Blk w' g2 35 (ucl (tabL.drop 8)).toArray ∧ w.heap.size ≤ g1 ∧ w.heap.size ≤ g2 ∧ Below w.heap.size w w' := by
  go_enter Try.func46, Try.ntmps46
  go_wp2_with fail
  go_ret2
  refine ⟨w.heap.size, w.heap.size + 1, rfl, ?_, ?_, Nat.le_refl _, by omega, ((Below.refl w.heap.size w).alloc (Nat.le_refl _) _).alloc (by simp) _⟩
  · exact (Blk.new w 35 _).alloc _
  · have h := Blk.new (w.alloc (.cells (ucl (tabL.take 8)).toArray 35)) 35 (ucl (tabL.drop 8)).toArray
    have e : (w.alloc (.cells (ucl (tabL.take 8)).toArray 35)).heap.size = w.heap.size + 1 := by simp
    rw [e] at h
    exact h
end Go.Proofs.Ytbccljpbnbobmaa
