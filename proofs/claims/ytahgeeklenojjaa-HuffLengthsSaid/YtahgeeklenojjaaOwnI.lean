/- Numbers in memory of the call's own. Conditions: none. -/
import Derived.Test.YtahgeeklenojjaaIRow
namespace Go.Proofs.Ytahgeeklenojjaa
open Go.RowKit

/-- n numbers m in memory of the call's own. -/
def OwnI (w : World) (base : Nat) (n : Nat) (m : Nat → Int) (v : Value) : Prop := ∃ g cap, v = .slice (some ⟨g, 0, none⟩) n cap ∧ w.ownsRow base 3 1 (.slice (some ⟨g, 0, none⟩) n cap) n (icells n m)

theorem own_made {w : World} {base n k : Nat} {m0 m1 : Nat → Int} {v v' : Value} (hn : n = 0) (h : w.ownsRow base 3 1 v' (n + k) (icells n m0 ++ icells k m1)) (hv : v = .slice none 0 0 ∨ v' ≠ .slice none 0 0) (hv0 : v ≠ .slice none 0 0) : OwnI w base k m1 v' := by
  subst hn
  have h' : w.ownsRow base 3 1 v' k (icells k m1) := by simpa [icells] using h
  rcases h'.2 with ⟨e, _⟩ | ⟨g, cap, cur, e, r⟩
  · rcases hv with hv | hv
    · exact absurd hv hv0
    · exact absurd e hv
  · subst e
    exact ⟨g, cap, rfl, h'⟩

/-- few's row, as it is read. -/
theorem OwnI.row {w : World} {base n : Nat} {m : Nat → Int} {v : Value} (h : OwnI w base n m v) : ∃ g cap, v = .slice (some ⟨g, 0, none⟩) n cap ∧ IRow w (some ⟨g, 0, none⟩) n m ∧ n ≤ cap ∧ cap ≤ 9223372036854775807 := by
  obtain ⟨g, cap, rfl, ho⟩ := h
  refine ⟨g, cap, rfl, IRow.ofOwn ho, ?_⟩
  rcases ho.2 with ⟨e, _⟩ | ⟨g', cap', cur, e, _, _, h1, h2, _⟩
  · cases e
  · simp only [Value.slice.injEq] at e
    obtain ⟨_, _, rfl⟩ := e
    unfold maxLen at h2
    exact ⟨h1, by omega⟩
end Go.Proofs.Ytahgeeklenojjaa
