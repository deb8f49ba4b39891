/- A slice of numbers among the arguments, told as a function. Conditions: none. -/
import Derived.Test.YtbccljpbnbobmaaLaw1d
import Derived.Test.YtbccljpbnbobmaaFrame
namespace Go.Proofs.Ytbccljpbnbobmaa
open Go.ChangeShapes Go.WideShapes Go.ChangeAt Go.RowKit

theorem row64_of {w : World} {x : Addr} {len cap : Nat} {zs : List Int} (hl : len ≤ cap) (hz : zs.length = cap) (hcell : ∀ i, i < zs.length → w.cell? (x.add i) = some (.int .u64 (zs.getD i 0))) (hwz : ∀ n ∈ zs, (Lit.int .u64 n).wf = true) :
    Row64 w (some x) len (fun i => (zs.getD i 0).toNat) := by
  by_cases h0 : len = 0
  · exact .inl h0
  · obtain ⟨b, off, spot⟩ := x
    have hc := hcell 0 (by omega)
    have hspot : spot = none := by simpa [Addr.add] using World.cell?_spot hc
    subst hspot
    refine .inr ⟨b, off, rfl, World.block_lt_of_cell? w ⟨b, off, none⟩ (by simpa [Addr.add] using hc), fun i hi => ?_⟩
    have hi' : i < zs.length := by omega
    obtain ⟨n, hn, hlt⟩ := nat_u64 (hwz (zs.getD i 0) (by rw [List.getD_eq_getElem?_getD, List.getElem?_eq_getElem hi']; exact List.getElem_mem hi'))
    have hci := hcell i hi'
    have e : (⟨b, off, none⟩ : Addr).add i = ⟨b, off + i, none⟩ := by unfold Addr.add; split <;> simp_all
    rw [e, hn] at hci
    show _ = some (Value.int .u64 (((zs.getD i 0).toNat : Nat) : Int)) ∧ (zs.getD i 0).toNat < _
    rw [hn, Int.toNat_natCast]
    exact ⟨hci, hlt⟩
end Go.Proofs.Ytbccljpbnbobmaa
