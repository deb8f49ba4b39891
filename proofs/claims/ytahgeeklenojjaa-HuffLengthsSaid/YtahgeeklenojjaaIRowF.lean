/- A slice of ints among the arguments, told as a function. Conditions: none. -/
import Derived.Test.YtahgeeklenojjaaIRow
import Derived.Test.YtahgeeklenojjaaFrame
namespace Go.Proofs.Ytahgeeklenojjaa
open Go.ChangeShapes Go.WideShapes Go.ChangeAt Go.RowKit

theorem irow_of {w : World} {x : Addr} {len cap : Nat} {zs : List Int} (hl : len ≤ cap) (hz : zs.length = cap) (hcell : ∀ i, i < zs.length → w.cell? (x.add i) = some (.int .i64 (zs.getD i 0))) :
    IRow w (some x) len (fun i => zs.getD i 0) := by
  by_cases h0 : len = 0
  · exact .inl h0
  · obtain ⟨b, off, spot⟩ := x
    have hc := hcell 0 (by omega)
    have hspot : spot = none := by simpa [Addr.add] using World.cell?_spot hc
    subst hspot
    refine .inr ⟨b, off, rfl, World.block_lt_of_cell? w ⟨b, off, none⟩ (by simpa [Addr.add] using hc), fun i hi => ?_⟩
    have hci := hcell i (by omega)
    have e : (⟨b, off, none⟩ : Addr).add i = ⟨b, off + i, none⟩ := by unfold Addr.add; split <;> simp_all
    rw [e] at hci
    exact hci
end Go.Proofs.Ytahgeeklenojjaa
