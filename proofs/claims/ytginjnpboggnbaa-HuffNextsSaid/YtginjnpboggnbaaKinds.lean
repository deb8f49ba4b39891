/- What Codes and Plant answer, by one number. Conditions: none. -/
import Derived.Test.YtginjnpboggnbaaPlant
import Derived.Test.YtginjnpboggnbaaFew4
namespace Go.Proofs.Ytginjnpboggnbaa
open Go.RowKit
set_option maxRecDepth 100000

/-- The error's number of n lengths m. -/
def KindOf (n : Nat) (m : Nat → Int) (k : Nat) : Prop :=
  (k = 2 ∧ 320 < n) ∨ (k = 1 ∧ n ≤ 320 ∧ ∃ i, i < n ∧ ¬ (0 ≤ m i ∧ m i ≤ 15)) ∨
  (k = 4 ∧ n ≤ 320 ∧ (∀ i, i < n → 0 ≤ m i ∧ m i ≤ 15) ∧ ¬ Fits (parts (lens m) n) (someOf (lens m) n)) ∨
  (k = 0 ∧ n ≤ 320 ∧ (∀ i, i < n → 0 ≤ m i ∧ m i ≤ 15) ∧ Fits (parts (lens m) n) (someOf (lens m) n))
theorem kind_ex (n : Nat) (m : Nat → Int) : ∃ k, KindOf n m k := by
  unfold KindOf
  by_cases h1 : 320 < n
  · exact ⟨2, .inl ⟨rfl, h1⟩⟩
  · by_cases h2 : ∃ i, i < n ∧ ¬ (0 ≤ m i ∧ m i ≤ 15)
    · exact ⟨1, .inr (.inl ⟨rfl, by omega, h2⟩)⟩
    · have h2' : ∀ i, i < n → 0 ≤ m i ∧ m i ≤ 15 := fun i hi => Decidable.byContradiction fun h => h2 ⟨i, hi, h⟩
      by_cases h3 : Fits (parts (lens m) n) (someOf (lens m) n)
      · exact ⟨0, .inr (.inr (.inr ⟨rfl, by omega, h2', h3⟩))⟩
      · exact ⟨4, .inr (.inr (.inl ⟨rfl, by omega, h2', h3⟩))⟩
theorem codes_k {w : World} {n : Nat} {m : Nat → Int} {e : Ending} {w' : World} {k : Nat} (hk : KindOf n m k) (h : CodesPost w n m e w') :
    Below w.heap.size w w' ∧ ((0 < k ∧ k ≤ 4 ∧ e = bad k) ∨ (k = 0 ∧ ∃ g, e = .returned (.tuple #[.slice (some ⟨g, 0, none⟩) n n, .int .i64 0]) ∧ w.heap.size ≤ g ∧ Blk w' g 31 (ccells n (bitsF (lens m) n) (lens m)))) := by
  obtain ⟨hb, h⟩ := h
  refine ⟨hb, ?_⟩
  rcases hk with ⟨rfl, k1⟩ | ⟨rfl, k1, i, k2, k3⟩ | ⟨rfl, k1, k2, k3⟩ | ⟨rfl, k1, k2, k3⟩ <;> rcases h with ⟨h1, rfl⟩ | ⟨h1, ⟨j, h2, h3⟩, rfl⟩ | ⟨h1, h2, h3, rfl⟩ | ⟨h1, h2, h3, v, rfl, g, rfl, hg, hB⟩
  · exact .inl ⟨by omega, by omega, rfl⟩
  · omega
  · omega
  · omega
  · omega
  · exact .inl ⟨by omega, by omega, rfl⟩
  · exact absurd (h2 i k2) k3
  · exact absurd (h2 i k2) k3
  · omega
  · exact absurd (k2 j h2) h3
  · exact .inl ⟨by omega, by omega, rfl⟩
  · exact absurd h3 k3
  · omega
  · exact absurd (k2 j h2) h3
  · exact absurd k3 h3
  · exact .inr ⟨rfl, g, rfl, hg, hB⟩
theorem plant_k {w : World} {n : Nat} {m : Nat → Int} {e : Ending} {w' : World} {k : Nat} (hk : KindOf n m k) (h : PlantPost w n m e w') :
    Below w.heap.size w w' ∧ ((0 < k ∧ k ≤ 4 ∧ e = badT k) ∨ (k = 0 ∧ ∃ (T g N cap : Nat) (B : Nat → Nat → Int) (pv pn : Nat → Nat), e = .returned (.tuple #[.pointer (some ⟨T, 0, none⟩), .int .i64 0]) ∧
      w.heap.size ≤ T ∧ w.heap.size ≤ g ∧ TreeAt w' T g N cap B ∧ N ≤ 10000 ∧ Grown (bitsF (lens m) n) (lens m) (InAll (lens m) n) B N pv pn)) := by
  obtain ⟨hb, h⟩ := h
  refine ⟨hb, ?_⟩
  rcases hk with ⟨rfl, k1⟩ | ⟨rfl, k1, i, k2, k3⟩ | ⟨rfl, k1, k2, k3⟩ | ⟨rfl, k1, k2, k3⟩ <;> rcases h with ⟨h1, rfl⟩ | ⟨h1, ⟨j, h2, h3⟩, rfl⟩ | ⟨h1, h2, h3, rfl⟩ | ⟨h1, h2, h3, h4⟩
  · exact .inl ⟨by omega, by omega, rfl⟩
  · omega
  · omega
  · omega
  · omega
  · exact .inl ⟨by omega, by omega, rfl⟩
  · exact absurd (h2 i k2) k3
  · exact absurd (h2 i k2) k3
  · omega
  · exact absurd (k2 j h2) h3
  · exact .inl ⟨by omega, by omega, rfl⟩
  · exact absurd h3 k3
  · omega
  · exact absurd (k2 j h2) h3
  · exact absurd k3 h3
  · exact .inr ⟨rfl, h4⟩
/-- few's row, as it is read. -/
theorem OwnI.row {w : World} {base n : Nat} {m : Nat → Int} {v : Value} (h : OwnI w base n m v) : ∃ g cap, v = .slice (some ⟨g, 0, none⟩) n cap ∧ IRow w (some ⟨g, 0, none⟩) n m ∧ n ≤ cap ∧ cap ≤ 9223372036854775807 := by
  obtain ⟨g, cap, rfl, ho⟩ := h
  refine ⟨g, cap, rfl, IRow.ofOwn ho, ?_⟩
  rcases ho.2 with ⟨e, _⟩ | ⟨g', cap', cur, e, _, _, h1, h2, _⟩
  · cases e
  · simp only [Value.slice.injEq] at e
    obtain ⟨_, _, rfl⟩ := e
    unfold maxLen at h2
    exact ⟨h1, by omega⟩
end Go.Proofs.Ytginjnpboggnbaa
