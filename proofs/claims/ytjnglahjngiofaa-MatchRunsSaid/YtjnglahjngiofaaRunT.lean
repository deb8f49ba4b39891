/- The tokens of a run of equal bytes: how many, and what is said when a byte of room lacks. Plain. Conditions: none. -/
import Derived.Test.YtjnglahjngiofaaRunP
namespace Go.Proofs.Ytjnglahjngiofaa
open Go.RowKit

theorem tokF_run_from {s : ByteArray} {c : UInt8} (h : AllB s c) (lv : Nat) (hl : 1 ≤ lv) : ∀ fu i, 1 ≤ i → (tokF s lv fu i).length ≤ (s.size - i) / 258 + 2 := by
  intro fu
  induction fu with
  | zero => intro i _; exact Nat.zero_le _
  | succ fu ih =>
    intro i h1
    by_cases h3 : i + 3 ≤ s.size
    · have hp := pick_run h lv i hl h1 h3
      show (if _ then _ else _ : List Tok).length ≤ _
      rw [if_pos (by omega), if_neg (by omega), List.length_cons, hp]
      by_cases hm : 258 ≤ s.size - i
      · rw [show min 258 (s.size - i) = 258 by omega]
        have := ih (i + 258) (by omega)
        omega
      · rw [show min 258 (s.size - i) = s.size - i by omega]
        have := tokF_len s lv fu (i + (s.size - i))
        omega
    · have := tokF_len s lv (fu + 1) i
      omega
/-- At most four tokens, and one for every 258 bytes. -/
theorem tokF_run {s : ByteArray} {c : UInt8} (h : AllB s c) (lv : Nat) (hl : 1 ≤ lv) : (tokF s lv s.size 0).length ≤ 4 + s.size / 258 := by
  cases hf : s.size with
  | zero => exact Nat.zero_le _
  | succ fu =>
    have hp : pick5 s lv 0 = 0 := by
      rcases pick_ok s lv 0 with h | ⟨_, h1, h2, h3, h4, h5, _⟩
      · exact h
      · omega
    show (if _ then _ else _ : List Tok).length ≤ _
    rw [if_pos (by omega), if_pos hp, List.length_cons]
    have := tokF_run_from h lv hl fu (0 + 1) (by omega)
    omega
/-- A byte of room lacks: refused. -/
theorem tokF_exp1 (s : ByteArray) (lv : Nat) : ∀ fu i, s.size - i ≤ fu → i < s.size → texp ((s.size : Int) - 1) (s.data.toList.take i) (tokF s lv fu i) = ([], 2) := by
  intro fu
  induction fu with
  | zero => intro i h1 h2; omega
  | succ fu ih =>
    intro i h1 hlt
    have hl : (s.data.toList.take i).length = i := by rw [List.length_take]; simp; omega
    show texp _ _ (if _ then _ else _) = _
    rw [if_pos hlt]
    by_cases hp : pick5 s lv i = 0
    · rw [if_pos hp]
      by_cases hlast : i + 1 = s.size
      · exact texp_stop (by unfold terr; rw [hl, if_pos rfl, if_neg (by simp), if_pos (by omega)]) (by decide)
      · rw [texp_step (by unfold terr; rw [hl]; simp; omega)]
        show texp _ (s.data.toList.take i ++ [byt s i]) _ = _
        rw [take_byt s i hlt]
        exact ih (i + 1) (by omega) (by omega)
    · obtain ⟨_, p1, p2, p3, p4, p5, p6, p7⟩ := (pick_ok s lv i).resolve_left hp
      rw [if_neg hp]
      by_cases hlast : i + pick5 s lv i = s.size
      · exact texp_stop (by
          unfold terr
          rw [hl, if_neg (by simp only; omega), if_neg (by simp only [ne_eq, not_true_eq_false, false_or]; omega), if_pos (by simp only; omega)]) (by decide)
      · rw [texp_step (by
          unfold terr
          rw [hl, if_neg (by simp only; omega), if_neg (by simp only [ne_eq, not_true_eq_false, false_or]; omega), if_neg (by simp only; omega)])]
        have e : tout (s.data.toList.take i) ⟨0, (pick5 s lv i : Int), ((bestF s (lv * lv) i i).2 : Int)⟩ = s.data.toList.take (i + pick5 s lv i) := by
          unfold tout
          rw [if_neg (by simp only; omega)]
          simp only [Int.toNat_natCast]
          exact rep_take s i _ _ p5 p3 p7 _ (Nat.le_refl _)
        rw [e]
        exact ih _ (by omega) (by omega)
end Go.Proofs.Ytjnglahjngiofaa
