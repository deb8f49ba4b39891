/- The library's stable sort over pairs. Conditions: rows of pairs as they stand in memory, weights within bounds. -/
import Derived.Test.YtahgeeklenojjaaSortA
namespace Go.Proofs.Ytahgeeklenojjaa
open Go.RowKit
set_option maxRecDepth 100000

/-- The parts of z places each, up to n, are sorted, and are those of x sorted. -/
def Parts (x y : Nat → Pr) (z n : Nat) : Prop := ∀ i, i * z < n → seg y (i * z) (min ((i + 1) * z) n) = isort pk (seg x (i * z) (min ((i + 1) * z) n))
theorem isort_pair {x y : Nat → Pr} {a m b : Nat} (h1 : a ≤ m) (h2 : m ≤ b) (k1 : seg y a m = isort pk (seg x a m)) (k2 : seg y m b = isort pk (seg x m b)) : mrg pk (seg y a m) (seg y m b) = isort pk (seg x a b) := by
  rw [k1, k2, seg_app x a m b h1 h2, isort_app]
theorem seg_keep {x y : Nat → Pr} {a b c d : Nat} (h : ∀ p, (p < a ∨ b ≤ p) → y p = x p) (hd : d ≤ a ∨ b ≤ c) : seg y c d = seg x c d :=
  seg_like _ _ _ _ _ _ rfl fun k hk => h _ (by omega)

/-- Sorted by parts: the first k ones done. -/
def Done (x y : Nat → Pr) (z _n k : Nat) : Prop := (∀ i, i < k → seg y (i * z) ((i + 1) * z) = isort pk (seg x (i * z) ((i + 1) * z))) ∧ ∀ p, k * z ≤ p → y p = x p
theorem Done.step {x y y' : Nat → Pr} {z n k : Nat} (h : Done x y z n k) (h1 : seg y' (k * z) ((k + 1) * z) = isort pk (seg y (k * z) ((k + 1) * z))) (h2 : ∀ p, (p < k * z ∨ (k + 1) * z ≤ p) → y' p = y p) : Done x y' z n (k + 1) := by
  have e : (k + 1) * z = k * z + z := Nat.succ_mul k z
  refine ⟨fun i hi => ?_, fun p hp => ?_⟩
  · by_cases ei : i = k
    · subst ei
      rw [h1]
      congr 1
      exact seg_like _ _ _ _ _ _ rfl fun t ht => h.2 _ (by omega)
    · have hle : (i + 1) * z ≤ k * z := Nat.mul_le_mul_right z (by omega)
      rw [← h.1 i (by omega)]
      exact seg_keep h2 (.inl hle)
  · rw [h2 p (.inr hp)]
    exact h.2 p (by omega)
theorem Done.last {x y y' : Nat → Pr} {z n k : Nat} (h : Done x y z n k) (hk : k * z ≤ n) (hn : n < (k + 1) * z) (h1 : seg y' (k * z) n = isort pk (seg y (k * z) n)) (h2 : ∀ p, (p < k * z ∨ n ≤ p) → y' p = y p) : Parts x y' z n ∧ ∀ p, n ≤ p → y' p = x p := by
  refine ⟨fun i hi => ?_, fun p hp => ?_⟩
  · by_cases ei : i = k
    · subst ei
      rw [Nat.min_eq_right (by omega), h1]
      congr 1
      exact seg_like _ _ _ _ _ _ rfl fun t ht => h.2 _ (by omega)
    · have hik : i < k := by
        by_cases e : i < k
        · exact e
        · have : (k + 1) * z ≤ i * z := Nat.mul_le_mul_right z (by omega)
          omega
      have hle : (i + 1) * z ≤ k * z := Nat.mul_le_mul_right z (by omega)
      rw [Nat.min_eq_left (by omega), ← h.1 i hik]
      exact seg_keep h2 (.inl hle)
  · rw [h2 p (.inr hp)]
    exact h.2 p (by omega)
/-- Parts are joined by twos: the first k ones done. -/
def Joined (x y : Nat → Pr) (z n k : Nat) : Prop := (∀ i, i < k → seg y (i * (2 * z)) ((i + 1) * (2 * z)) = isort pk (seg x (i * (2 * z)) ((i + 1) * (2 * z)))) ∧
  (∀ i, 2 * k ≤ i → i * z < n → seg y (i * z) (min ((i + 1) * z) n) = isort pk (seg x (i * z) (min ((i + 1) * z) n))) ∧ ∀ p, n ≤ p → y p = x p
theorem Joined.begin {x y : Nat → Pr} {z n : Nat} (h : Parts x y z n) (h2 : ∀ p, n ≤ p → y p = x p) : Joined x y z n 0 := ⟨fun i hi => by omega, fun i _ hi => h i hi, h2⟩
theorem Joined.two {x y : Nat → Pr} {z n k : Nat} (h : Joined x y z n k) (a m b : Nat) (ha : a = 2 * k * z) (hm : m = a + z) (hb : b ≤ n) (hbz : b ≤ m + z) (hz : m < b) (hbb : b = m + z ∨ b = n) : Srt pk (seg y a m) ∧ Srt pk (seg y m b) ∧ mrg pk (seg y a m) (seg y m b) = isort pk (seg x a b) := by
  have e1 : (2 * k + 1) * z = m := by rw [Nat.succ_mul, hm, ha]
  have e2 : (2 * k + 1 + 1) * z = m + z := by rw [Nat.succ_mul, e1]
  have k1 := h.2.1 (2 * k) (Nat.le_refl _) (by omega)
  have k2 := h.2.1 (2 * k + 1) (by omega) (by omega)
  rw [e1, ← ha, Nat.min_eq_left (by omega)] at k1
  rw [e1, e2, show min (m + z) n = b by omega] at k2
  refine ⟨by rw [k1]; exact isort_srt pk _, by rw [k2]; exact isort_srt pk _, isort_pair (by omega) (by omega) k1 k2⟩
theorem Joined.step {x y y' : Nat → Pr} {z n k a m b : Nat} (h : Joined x y z n k) (ha : a = 2 * k * z) (hm : m = a + z) (hb : b = m + z) (hbn : b ≤ n) (hz : 0 < z) (h1 : seg y' a b = mrg pk (seg y a m) (seg y m b)) (h2 : ∀ p, (p < a ∨ b ≤ p) → y' p = y p) : Joined x y' z n (k + 1) := by
  obtain ⟨_, _, k3⟩ := h.two a m b ha hm hbn (by omega) (by omega) (.inl hb)
  have ea : k * (2 * z) = a := by rw [ha, Nat.mul_assoc, Nat.mul_left_comm]
  have eb : (k + 1) * (2 * z) = b := by rw [Nat.succ_mul, ea]; omega
  refine ⟨fun i hi => ?_, fun i hi hin => ?_, fun p hp => by rw [h2 p (by omega)]; exact h.2.2 p hp⟩
  · by_cases ei : i = k
    · subst ei
      rw [ea, eb, h1, k3]
    · have hle : (i + 1) * (2 * z) ≤ k * (2 * z) := Nat.mul_le_mul_right _ (by omega)
      rw [← h.1 i (by omega)]
      exact seg_keep h2 (.inl (by omega))
  · rw [← h.2.1 i (by omega) hin]
    have : (2 * (k + 1)) * z ≤ i * z := Nat.mul_le_mul_right z hi
    have e3 : (2 * (k + 1)) * z = b := by rw [show 2 * (k + 1) = 2 * k + 1 + 1 by omega, Nat.succ_mul, Nat.succ_mul]; omega
    exact seg_keep h2 (.inr (by omega))
theorem Joined.last {x y y' : Nat → Pr} {z n k a m : Nat} (h : Joined x y z n k) (ha : a = 2 * k * z) (hm : m = a + z) (hmn : m < n) (hn : n < m + z) (h1 : seg y' a n = mrg pk (seg y a m) (seg y m n)) (h2 : ∀ p, (p < a ∨ n ≤ p) → y' p = y p) : Parts x y' (2 * z) n ∧ ∀ p, n ≤ p → y' p = x p := by
  obtain ⟨_, _, k3⟩ := h.two a m n ha hm (Nat.le_refl _) (by omega) (by omega) (.inr rfl)
  have ea : k * (2 * z) = a := by rw [ha, Nat.mul_assoc, Nat.mul_left_comm]
  have eb : (k + 1) * (2 * z) = m + z := by rw [Nat.succ_mul, ea]; omega
  refine ⟨fun i hi => ?_, fun p hp => by rw [h2 p (.inr hp)]; exact h.2.2 p hp⟩
  by_cases ei : i = k
  · subst ei
    rw [ea, eb, Nat.min_eq_right (by omega), h1, k3]
  · have hik : i < k := by
      by_cases e : i < k
      · exact e
      · have : (k + 1) * (2 * z) ≤ i * (2 * z) := Nat.mul_le_mul_right _ (by omega)
        omega
    have hle : (i + 1) * (2 * z) ≤ k * (2 * z) := Nat.mul_le_mul_right _ (by omega)
    rw [Nat.min_eq_left (by omega), ← h.1 i hik]
    exact seg_keep h2 (.inl (by omega))
theorem Joined.none {x y : Nat → Pr} {z n k a m : Nat} (h : Joined x y z n k) (ha : a = 2 * k * z) (hm : m = a + z) (hmn : n ≤ m) (han : a ≤ n) : Parts x y (2 * z) n ∧ ∀ p, n ≤ p → y p = x p := by
  have ea : k * (2 * z) = a := by rw [ha, Nat.mul_assoc, Nat.mul_left_comm]
  have eb : (k + 1) * (2 * z) = m + z := by rw [Nat.succ_mul, ea]; omega
  refine ⟨fun i hi => ?_, h.2.2⟩
  by_cases ei : i = k
  · subst ei
    rw [ea, eb, Nat.min_eq_right (by omega)]
    have e1 : (2 * i + 1) * z = m := by rw [Nat.succ_mul, hm, ha]
    have k1 := h.2.1 (2 * i) (Nat.le_refl _) (by omega)
    rw [e1, ← ha, Nat.min_eq_right (by omega)] at k1
    exact k1
  · have hik : i < k := by
      by_cases e : i < k
      · exact e
      · have : (k + 1) * (2 * z) ≤ i * (2 * z) := Nat.mul_le_mul_right _ (by omega)
        omega
    have hle : (i + 1) * (2 * z) ≤ k * (2 * z) := Nat.mul_le_mul_right _ (by omega)
    rw [Nat.min_eq_left (by omega), ← h.1 i hik]
theorem Parts.all {x y : Nat → Pr} {z n : Nat} (h : Parts x y z n) (hn : 0 < n) (hz : n ≤ z) : seg y 0 n = isort pk (seg x 0 n) := by
  have := h 0 (by omega)
  rw [Nat.zero_mul, show min ((0 + 1) * z) n = n by rw [Nat.zero_add, Nat.one_mul]; omega] at this
  exact this
end Go.Proofs.Ytahgeeklenojjaa
