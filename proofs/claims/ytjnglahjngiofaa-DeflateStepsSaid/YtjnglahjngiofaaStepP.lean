/- The steps of lengths, in plain Lean. Conditions: none. -/
import Derived.Test.YtjnglahjngiofaaBase
namespace Go.Proofs.Ytjnglahjngiofaa
open Go.RowKit

/-- Length i. -/
def ln (L : List Int) (i : Nat) : Int := L.getD i 0
/-- How many are like length i, from place i on. -/
def runN (L : List Int) (i : Nat) : Nat := ((L.drop i).takeWhile fun x => x == ln L i).length
structure Stp where
  sym : Int
  more : Int
/-- The step at place i, and how many lengths it tells. -/
def stepAt (L : List Int) (i : Nat) : Stp × Nat :=
  if ln L i = 0 ∧ 11 ≤ runN L i then (⟨18, ((min (runN L i) 138 : Nat) : Int) - 11⟩, min (runN L i) 138)
  else if ln L i = 0 ∧ 3 ≤ runN L i then (⟨17, ((min (runN L i) 10 : Nat) : Int) - 3⟩, min (runN L i) 10)
  else if 0 < i ∧ ln L i = ln L (i - 1) ∧ 3 ≤ runN L i then (⟨16, ((min (runN L i) 6 : Nat) : Int) - 3⟩, min (runN L i) 6)
  else (⟨ln L i, 0⟩, 1)
theorem stepAt_pos (L : List Int) (i : Nat) : 1 ≤ (stepAt L i).2 := by
  unfold stepAt
  split
  · simp only; omega
  · split
    · simp only; omega
    · split
      · simp only; omega
      · exact Nat.le_refl _
/-- The steps from place i on. -/
def stepsFrom (L : List Int) (i : Nat) : List Stp :=
  if i < L.length then (stepAt L i).1 :: stepsFrom L (i + (stepAt L i).2) else []
termination_by L.length - i
decreasing_by
  have := stepAt_pos L i
  omega
theorem stepsFrom_in (L : List Int) (i : Nat) (h : i < L.length) : stepsFrom L i = (stepAt L i).1 :: stepsFrom L (i + (stepAt L i).2) := by
  rw [stepsFrom, if_pos h]
theorem stepsFrom_out (L : List Int) (i : Nat) (h : ¬ i < L.length) : stepsFrom L i = [] := by
  rw [stepsFrom, if_neg h]
theorem tw_len (x : Int) (M : List Int) (n : Nat) (hn : n ≤ M.length) (h1 : ∀ j, j < n → M.getD j 0 = x) (h2 : n = M.length ∨ M.getD n 0 ≠ x) : (M.takeWhile fun y => y == x).length = n := by
  induction M generalizing n with
  | nil => simp at hn; subst hn; rfl
  | cons y r ih =>
    cases n with
    | zero =>
      have h3 : y ≠ x := by
        rcases h2 with h | h
        · simp at h
        · simpa using h
      have : (y == x) = false := by simpa using h3
      simp [List.takeWhile, this]
    | succ n =>
      have h0 : y = x := by simpa using h1 0 (by omega)
      have : (y == x) = true := by simpa using h0
      simp only [List.takeWhile, this, List.length_cons]
      rw [ih n (by simpa using hn) (fun j hj => by simpa using h1 (j + 1) (by omega)) (by
        rcases h2 with h | h
        · left; simpa using h
        · right; simpa using h)]
theorem runN_eq (L : List Int) (i n : Nat) (hn : i + n ≤ L.length) (h1 : ∀ j, j < n → ln L (i + j) = ln L i) (h2 : i + n = L.length ∨ ln L (i + n) ≠ ln L i) : runN L i = n := by
  have hd : ∀ j, (L.drop i).getD j 0 = ln L (i + j) := fun j => by simp [ln, List.getD]
  refine tw_len (ln L i) (L.drop i) n (by rw [List.length_drop]; omega) (fun j hj => by rw [hd]; exact h1 j hj) ?_
  rw [hd, List.length_drop]
  rcases h2 with h | h
  · left; omega
  · exact .inr h
end Go.Proofs.Ytjnglahjngiofaa
