/- What the tokens of a text say: plain. Conditions: none. -/
import Derived.Test.YtjnglahjngiofaaMatP
namespace Go.Proofs.Ytjnglahjngiofaa
open Go.RowKit

theorem take_byt (s : ByteArray) (i : Nat) (h : i < s.size) : s.data.toList.take i ++ [byt s i] = s.data.toList.take (i + 1) := by
  have hl : i < s.data.toList.length := by simpa using h
  rw [List.take_succ_eq_append_getElem hl]
  unfold byt
  rw [List.getD_eq_getElem?_getD, List.getElem?_eq_getElem hl]
  rfl
theorem rep_take (s : ByteArray) (i d n : Nat) (hd : d ≤ i) (hd1 : 1 ≤ d) (h : ∀ j, j < n → i + j < s.size ∧ byt s (i - d + j) = byt s (i + j)) : ∀ m, m ≤ n → rep d (s.data.toList.take i) m = s.data.toList.take (i + m) := by
  intro m
  induction m with
  | zero => intro _; rfl
  | succ m ih =>
    intro hm
    have h1 := h m (by omega)
    show rep d _ m ++ [(rep d _ m).getD ((rep d _ m).length - d) 0] = _
    rw [ih (by omega)]
    have hl : (s.data.toList.take (i + m)).length = i + m := by rw [List.length_take]; simp; omega
    rw [hl]
    have e : (s.data.toList.take (i + m)).getD (i + m - d) 0 = byt s (i + m) := by
      rw [← h1.2]
      unfold byt
      rw [List.getD_eq_getElem?_getD, List.getD_eq_getElem?_getD, List.getElem?_take, if_pos (by omega), show i + m - d = i - d + m by omega]
    rw [e]
    exact take_byt s (i + m) h1.1
/-- What is picked. -/
theorem pick_ok (s : ByteArray) (lv i : Nat) : pick5 s lv i = 0 ∨ (pick5 s lv i = (bestF s (lv * lv) i i).1 ∧ 3 ≤ pick5 s lv i ∧ pick5 s lv i ≤ 258 ∧ 1 ≤ (bestF s (lv * lv) i i).2 ∧ (bestF s (lv * lv) i i).2 ≤ 32768 ∧ (bestF s (lv * lv) i i).2 ≤ i ∧ i + pick5 s lv i ≤ s.size ∧
    ∀ j, j < pick5 s lv i → i + j < s.size ∧ byt s (i - (bestF s (lv * lv) i i).2 + j) = byt s (i + j)) := by
  obtain ⟨hg, h3, _⟩ := bestF_ok s (lv * lv) i i (Nat.le_refl _)
  by_cases h : pick5 s lv i = 0
  · exact .inl h
  · have e : pick5 s lv i = (bestF s (lv * lv) i i).1 := by
      unfold pick5 at h ⊢
      split
      · rename_i hc; rw [if_pos hc] at h; exact absurd rfl h
      · rfl
    rw [e] at h ⊢
    rcases hg with h0 | ⟨h1, h2, h4, h5, h6⟩
    · exact absurd h0 h
    · have hn := h3.resolve_left h
      refine .inr ⟨rfl, hn, h1, h2, h4, h5, ?_, h6⟩
      have := (h6 ((bestF s (lv * lv) i i).1 - 1) (by omega)).1
      omega
theorem tokF_exp (s : ByteArray) (lv : Nat) : ∀ fu i, s.size - i ≤ fu → i ≤ s.size → texp (s.size : Int) (s.data.toList.take i) (tokF s lv fu i) = (s.data.toList, 0) := by
  intro fu
  induction fu with
  | zero =>
    intro i h1 h2
    obtain rfl : i = s.size := by omega
    show (_, 0) = _
    rw [List.take_of_length_le (by simp)]
  | succ fu ih =>
    intro i h1 h2
    by_cases hlt : i < s.size
    · have hl : (s.data.toList.take i).length = i := by rw [List.length_take]; simp; omega
      show texp _ _ (if _ then _ else _) = _
      rw [if_pos hlt]
      by_cases hp : pick5 s lv i = 0
      · rw [if_pos hp, texp_step (by unfold terr; rw [hl]; simp; omega)]
        show texp _ (s.data.toList.take i ++ [byt s i]) _ = _
        rw [take_byt s i hlt]
        exact ih (i + 1) (by omega) (by omega)
      · obtain ⟨_, p1, p2, p3, p4, p5, p6, p7⟩ := (pick_ok s lv i).resolve_left hp
        rw [if_neg hp, texp_step (by
          unfold terr
          rw [hl, if_neg (by simp only; omega), if_neg (by simp only [ne_eq, not_true_eq_false, false_or]; omega), if_neg (by simp only; omega)])]
        have e : tout (s.data.toList.take i) ⟨0, (pick5 s lv i : Int), ((bestF s (lv * lv) i i).2 : Int)⟩ = s.data.toList.take (i + pick5 s lv i) := by
          unfold tout
          rw [if_neg (by simp only; omega)]
          simp only [Int.toNat_natCast]
          exact rep_take s i _ _ p5 p3 p7 _ (Nat.le_refl _)
        rw [e]
        exact ih _ (by omega) p6
    · obtain rfl : i = s.size := by omega
      show texp _ _ (if _ then _ else _) = _
      rw [if_neg hlt]
      show (_, 0) = _
      rw [List.take_of_length_le (by simp)]
theorem tokF_len (s : ByteArray) (lv : Nat) : ∀ fu i, (tokF s lv fu i).length ≤ s.size - i := by
  intro fu
  induction fu with
  | zero => intro i; exact Nat.zero_le _
  | succ fu ih =>
    intro i
    show (if _ then _ else _ : List Tok).length ≤ _
    by_cases hlt : i < s.size
    · rw [if_pos hlt]
      by_cases hp : pick5 s lv i = 0
      · rw [if_pos hp, List.length_cons]
        have := ih (i + 1)
        omega
      · rw [if_neg hp, List.length_cons]
        have := ih (i + pick5 s lv i)
        obtain ⟨_, p1, _⟩ := (pick_ok s lv i).resolve_left hp
        omega
    · rw [if_neg hlt]; exact Nat.zero_le _
theorem tokF_zero (s : ByteArray) : ∀ fu i t, t ∈ tokF s 0 fu i → t.l = 0 := by
  intro fu
  induction fu with
  | zero => intro i t h; cases h
  | succ fu ih =>
    intro i t h
    have hp : pick5 s 0 i = 0 := by
      rcases pick_ok s 0 i with h | ⟨h, _⟩
      · exact h
      · rw [h]; exact (bestF_ok s (0 * 0) i i (Nat.le_refl _)).2.2 rfl
    have h' : t ∈ (if i < s.size then (if pick5 s 0 i = 0 then (⟨byt s i, 0, 0⟩ : Tok) :: tokF s 0 fu (i + 1) else ⟨0, (pick5 s 0 i : Int), ((bestF s (0 * 0) i i).2 : Int)⟩ :: tokF s 0 fu (i + pick5 s 0 i)) else []) := h
    split at h'
    · rcases List.mem_cons.1 h' with e | e
      · rw [e]
      · exact ih _ t e
    · cases h'
end Go.Proofs.Ytjnglahjngiofaa
