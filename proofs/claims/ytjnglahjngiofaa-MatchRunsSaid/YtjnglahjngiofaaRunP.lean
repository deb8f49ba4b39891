/- The tokens of a run of equal bytes: plain. Conditions: none. -/
import Derived.Test.YtjnglahjngiofaaTokT
namespace Go.Proofs.Ytjnglahjngiofaa
open Go.RowKit

/-- All bytes of s are c. -/
def AllB (s : ByteArray) (c : UInt8) : Prop := ∀ i, i < s.size → byt s i = c
theorem mlen_run {s : ByteArray} {c : UInt8} (h : AllB s c) (a i : Nat) (ha : a < i) (f : Nat) : ∀ m, i + m ≤ s.size → mlen s a i m f = min (m + f) (s.size - i) := by
  induction f with
  | zero => intro m hm; show m = _; omega
  | succ f ih =>
    intro m hm
    show (if _ then _ else _) = _
    by_cases hlt : i + m < s.size
    · rw [if_pos ⟨hlt, by rw [h _ hlt, h _ (by omega)]⟩, ih (m + 1) (by omega)]
      congr 1
      omega
    · rw [if_neg (fun e => hlt e.1)]
      omega
theorem loop_run {s : ByteArray} {c : UInt8} (h : AllB s c) (i d : Nat) (hi : i ≤ s.size) (k : Nat) : ∀ o, (∀ a, o = some a → a < i) → loopF s i k o (min 258 (s.size - i)) d = (min 258 (s.size - i), d) := by
  induction k with
  | zero => intro o _; rfl
  | succ k ih =>
    intro o ho
    cases o with
    | none => rfl
    | some a =>
      have ha := ho a rfl
      have e := mlen_run h a i ha 258 0 (by omega)
      rw [Nat.zero_add] at e
      unfold loopF
      split
      · rw [e, if_neg (Nat.lt_irrefl _), if_neg (Nat.lt_irrefl _)]
        exact ih _ fun b hb => by have := (lastP_lt s a a b hb).1; omega
      · rfl
theorem k3_run {s : ByteArray} {c : UInt8} (h : AllB s c) (i : Nat) (hi : i + 3 ≤ s.size) : k3 s i = [c, c, c] := by
  have e : k3 s i = (s.data.toList.drop i).take 3 := by
    unfold k3
    rw [ByteArray.data_extract, Array.toList_extract, List.extract_eq_take_drop]
    congr 1
    omega
  rw [e]
  apply List.ext_getElem?
  intro j
  rw [List.getElem?_take]
  by_cases hj : j < 3
  · rw [if_pos hj, List.getElem?_drop]
    have hb := h (i + j) (by omega)
    unfold byt at hb
    rw [List.getD_eq_getElem?_getD, List.getElem?_eq_getElem (by simp; omega)] at hb
    rw [List.getElem?_eq_getElem (by simp; omega)]
    simp at hb
    have : j = 0 ∨ j = 1 ∨ j = 2 := by omega
    rcases this with rfl | rfl | rfl <;> simpa using hb
  · rw [if_neg hj, List.getElem?_eq_none (by simp; omega)]
theorem last_run {s : ByteArray} {c : UInt8} (h : AllB s c) (i : Nat) (h1 : 1 ≤ i) (hi : i + 3 ≤ s.size) : lastP s i i = some (i - 1) := by
  obtain ⟨q, rfl⟩ : ∃ q, i = q + 1 := ⟨i - 1, by omega⟩
  unfold lastP
  rw [if_pos ⟨by omega, by rw [k3_run h q (by omega), k3_run h (q + 1) hi]⟩]
  rfl
/-- The longest repeat of a run. -/
theorem best_run {s : ByteArray} {c : UInt8} (h : AllB s c) (far i : Nat) (hf : 1 ≤ far) (h1 : 1 ≤ i) (hi : i + 3 ≤ s.size) : bestF s far i i = (min 258 (s.size - i), 1) := by
  obtain ⟨k, rfl⟩ : ∃ k, far = k + 1 := ⟨far - 1, by omega⟩
  have e : loopF s i (k + 1) (lastP s i i) 0 0 = (min 258 (s.size - i), 1) := by
    rw [last_run h i h1 hi]
    unfold loopF
    have em := mlen_run h (i - 1) i (by omega) 258 0 (by omega)
    rw [Nat.zero_add] at em
    rw [if_pos (by omega), em, if_pos (by omega), if_pos (by omega), show i - (i - 1) = 1 by omega]
    exact loop_run h i 1 (by omega) k _ fun b hb => by have := (lastP_lt s _ _ b hb).1; omega
  unfold bestF
  rw [if_neg (by omega), e, if_neg (by simp only; omega)]
theorem best_short0 (s : ByteArray) (far i : Nat) (hi : s.size < i + 3) : bestF s far i i = (0, 0) := by unfold bestF; rw [if_pos (.inl hi)]
/-- It is picked: the second look finds no longer one. -/
theorem pick_run {s : ByteArray} {c : UInt8} (h : AllB s c) (lv i : Nat) (hl : 1 ≤ lv) (h1 : 1 ≤ i) (hi : i + 3 ≤ s.size) : pick5 s lv i = min 258 (s.size - i) := by
  have hf : 1 ≤ lv * lv := Nat.mul_le_mul hl hl
  have e := best_run h (lv * lv) i hf h1 hi
  unfold pick5
  rw [e, if_neg]
  rintro ⟨_, _, _, h4⟩
  by_cases h5 : i + 1 + 3 ≤ s.size
  · rw [best_run h (lv * lv) (i + 1) hf (by omega) h5] at h4
    simp only at h4
    omega
  · rw [best_short0 s (lv * lv) (i + 1) (by omega)] at h4
    simp only at h4
    omega
end Go.Proofs.Ytjnglahjngiofaa
