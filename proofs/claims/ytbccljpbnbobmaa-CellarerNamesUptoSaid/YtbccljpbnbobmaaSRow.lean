/- Rows of strings that came in. Conditions: none. -/
import Derived.Test.YtbccljpbnbobmaaBase
namespace Go.Proofs.Ytbccljpbnbobmaa
open Go.RowKit
set_option maxRecDepth 100000

/-- n strings lie at a. -/
def SRow (w : World) (a : Option Addr) (n : Nat) (m : Nat → ByteArray) : Prop :=
  n = 0 ∨ ∃ b off, a = some ⟨b, off, none⟩ ∧ b < w.heap.size ∧ ∀ i, i < n → w.cell? ⟨b, off + i, none⟩ = some (.string (m i)) ∧ (m i).size ≤ maxLen
theorem SRow.get {w : World} {a : Option Addr} {n : Nat} {m : Nat → ByteArray} (h : SRow w a n m) (i : Nat) (hi : i < n) : ∃ b off, a = some ⟨b, off, none⟩ ∧ b < w.heap.size ∧ w.cell? ⟨b, off + i, none⟩ = some (.string (m i)) ∧ (m i).size ≤ maxLen := by
  rcases h with h | ⟨b, off, h1, h2, h3⟩
  · omega
  · exact ⟨b, off, h1, h2, (h3 i hi).1, (h3 i hi).2⟩
theorem SRow.below {w w' : World} {a : Option Addr} {n : Nat} {m : Nat → ByteArray} (h : SRow w a n m) (hb : Below w.heap.size w w') : SRow w' a n m := by
  rcases h with h | ⟨b, off, h1, h2, h3⟩
  · exact .inl h
  · exact .inr ⟨b, off, h1, Nat.lt_of_lt_of_le h2 hb.size, fun i hi => ⟨(hb.cell (p := ⟨b, off + i, none⟩) h2).trans (h3 i hi).1, (h3 i hi).2⟩⟩
theorem srow_of {w : World} {x : Addr} {len cap : Nat} {ss : List ByteArray} (hl : len ≤ cap) (hz : ss.length = cap) (hcell : ∀ i, i < ss.length → w.cell? (x.add i) = some (.string (ss.getD i ByteArray.empty))) (hwz : ∀ s ∈ ss, s.size ≤ maxLen) :
    SRow w (some x) len (fun i => ss.getD i ByteArray.empty) := by
  by_cases h0 : len = 0
  · exact .inl h0
  · obtain ⟨b, off, spot⟩ := x
    have hc := hcell 0 (by omega)
    have hspot : spot = none := by simpa [Addr.add] using World.cell?_spot hc
    subst hspot
    refine .inr ⟨b, off, rfl, World.block_lt_of_cell? _ _ hc, fun i hi => ⟨?_, ?_⟩⟩
    · have h := hcell i (by omega)
      by_cases hi0 : i = 0
      · subst hi0; simpa [Addr.add] using h
      · simpa [Addr.add, hi0] using h
    · apply hwz
      show ss.getD i ByteArray.empty ∈ ss
      rw [List.getD_eq_getElem?_getD, List.getElem?_eq_getElem (by omega)]
      exact List.getElem_mem _
end Go.Proofs.Ytbccljpbnbobmaa
