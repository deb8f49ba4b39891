/- Symbols that are put are read again: plain. Conditions: none. -/
import Derived.Test.YtahgeeklenojjaaNext4
import Derived.Test.YtahgeeklenojjaaRevA
namespace Go.Proofs.Ytahgeeklenojjaa
open Go.RowKit

/-- No code begins another one. -/
theorem free_all (L : Nat → Nat) (n : Nat) (h15 : ∀ i, i < n → L i ≤ 15) : ∀ s t, InAll L n s → InAll L n t → s ≠ t → ¬ Ext (bitsF L n) L (bitsF L n s) (L s) t := by
  rintro s t ⟨h1, h2⟩ ⟨h3, h4⟩ hne ⟨h5, h6⟩
  unfold bitsF at h6
  rw [if_pos h2, if_pos h4] at h6
  by_cases e : L s < L t ∨ s < t
  · have ha : ahead L s t = true := by
      unfold ahead
      rw [decide_eq_true h2, Bool.true_and]
      by_cases e1 : L s < L t
      · rw [decide_eq_true e1]; rfl
      · rw [decide_eq_true (show L s = L t by omega), decide_eq_true (show s < t by omega)]; simp
    exact code_apart L n s t h1 ha (h15 t h3) h6
  · have ha : ahead L t s = true := by
      unfold ahead
      rw [decide_eq_true h4, Bool.true_and, decide_eq_true (show L t = L s by omega), decide_eq_true (show t < s by omega)]; simp
    have := code_apart L n t s h3 ha (h15 s h1)
    rw [show L t - L s = 0 by omega, Nat.pow_zero, Nat.div_one] at h6
    rw [show L s - L t = 0 by omega, Nat.pow_zero, Nat.div_one] at this
    exact this h6.symm
/-- The first bits of a number's turned bits. -/
theorem rev_front (X l m : Nat) (h : m ≤ l) : rev X l / 2 ^ (l - m) = rev X m := by
  have e := rev_add X m (l - m)
  rw [show m + (l - m) = l by omega] at e
  rw [e, Nat.mul_comm, Nat.mul_add_div (pow_pos2 _), Nat.div_eq_of_lt (rev_lt _ _), Nat.add_zero]
/-- A symbol whose code stands there is read. -/
theorem next_is {F L : Nat → Nat} {In : Nat → Prop} {X nbits p sym err taken s : Nat} (hPF : ∀ s t, In s → In t → s ≠ t → ¬ Ext F L (F s) (L s) t) (h : NextOut F L In X nbits p sym err taken) (hs : In s) (h0 : 0 < L s) (hp : p + L s ≤ nbits) (hF : rev X (L s) = F s) : sym = s ∧ err = 0 ∧ taken = L s := by
  obtain ⟨h1, h2, h3⟩ := h
  have hext : ∀ m, m ≤ L s → Ext F L (rev X m) m s := fun m hm => ⟨hm, by rw [← hF, rev_front X (L s) m hm]⟩
  have hle : taken ≤ L s := by
    by_cases e : taken ≤ L s
    · exact e
    · obtain ⟨_, t, h4, h5, h6⟩ := h2 (L s) h0 (by omega)
      rw [hF] at h5
      by_cases est : s = t
      · subst est; omega
      · exact absurd h5 (hPF s t hs h4 est)
  rcases h3 with ⟨h3, _⟩ | ⟨_, h4, _⟩ | ⟨_, h4, h5, h6, h7⟩
  · omega
  · exact absurd (hext taken hle) (h4 s hs)
  · by_cases est : sym = s
    · subst est; exact ⟨rfl, h7, h5.symm⟩
    · refine absurd ?_ (hPF sym s h4 hs est)
      rw [h5, h6]
      exact hext taken hle

/-- Where the i-th of these symbols' codes begins. -/
def sumL (L : Nat → Nat) : List Nat → Nat
  | [] => 0
  | s :: r => L s + sumL L r
theorem sumL_append (L : Nat → Nat) (a b : List Nat) : sumL L (a ++ b) = sumL L a + sumL L b := by
  induction a with
  | nil => simp [sumL]
  | cons x r ih => simp only [List.cons_append, sumL, ih]; omega
def posH (L : Nat → Nat) (J : List Nat) (i : Nat) : Nat := sumL L (J.take i)
theorem posH_succ (L : Nat → Nat) (J : List Nat) (i : Nat) (h : i < J.length) : posH L J (i + 1) = posH L J i + L (J.getD i 0) := by
  unfold posH
  rw [List.take_succ_eq_append_getElem h, sumL_append]
  simp only [sumL, Nat.add_zero]
  congr 2
  rw [List.getD_eq_getElem?_getD, List.getElem?_eq_getElem h]
  rfl
theorem posH_le (L : Nat → Nat) (J : List Nat) (i : Nat) : posH L J i ≤ posH L J J.length := by
  unfold posH
  rw [List.take_length]
  have := sumL_append L (J.take i) (J.drop i)
  rw [List.take_append_drop] at this
  omega
theorem posH_more (L : Nat → Nat) (J : List Nat) (s i : Nat) (hi : i ≤ J.length) : posH L (J ++ [s]) i = posH L J i := by
  unfold posH
  rw [List.take_append_of_le_length hi]
theorem posH_all (L : Nat → Nat) (J : List Nat) (s : Nat) : posH L (J ++ [s]) (J ++ [s]).length = posH L J J.length + L s := by
  unfold posH
  rw [List.take_length, List.take_length, sumL_append]
  simp [sumL]
/-- What the sink holds: the codes of these symbols. -/
def HeldH (F L : Nat → Nat) (In : Nat → Prop) (J : List Nat) (V : Nat) : Prop :=
  ∀ i, i < J.length → In (J.getD i 0) ∧ rev (V / 2 ^ posH L J i) (L (J.getD i 0)) = F (J.getD i 0)
theorem low_same (V z c q l : Nat) (h : q + l ≤ c) : (V + z * 2 ^ c) / 2 ^ q % 2 ^ l = V / 2 ^ q % 2 ^ l := by
  have e : z * 2 ^ c = 2 ^ q * (z * 2 ^ (c - q - l) * 2 ^ l) := by
    have : (2 : Nat) ^ c = 2 ^ q * 2 ^ (c - q - l) * 2 ^ l := by
      rw [← Nat.pow_add, ← Nat.pow_add]
      congr 1; omega
    rw [this]
    simp only [Nat.mul_comm, Nat.mul_left_comm]
  rw [e, Nat.add_mul_div_left _ _ (pow_pos2 _), Nat.add_mul_mod_self_right]
theorem HeldH.more {F L : Nat → Nat} {In : Nat → Prop} {J : List Nat} {V s : Nat} (h : HeldH F L In J V) (hV : V < 2 ^ posH L J J.length) (hs : In s) (hF : F s < 2 ^ L s) : HeldH F L In (J ++ [s]) (V + rev (F s) (L s) * 2 ^ posH L J J.length) := by
  intro i hi
  rw [List.length_append] at hi
  by_cases e : i < J.length
  · have hg : (J ++ [s]).getD i 0 = J.getD i 0 := by
      rw [List.getD_eq_getElem?_getD, List.getD_eq_getElem?_getD, List.getElem?_append_left e]
    rw [hg, posH_more L J s i (by omega)]
    obtain ⟨h1, h2⟩ := h i e
    refine ⟨h1, ?_⟩
    have h3 := posH_succ L J i e
    have h4 := posH_le L J (i + 1)
    rw [← rev_mod _ _ _ (Nat.le_refl _), low_same _ _ _ _ _ (by omega), rev_mod _ _ _ (Nat.le_refl _)]
    exact h2
  · have ei : i = J.length := by simp at hi; omega
    have hg : (J ++ [s]).getD i 0 = s := by
      rw [List.getD_eq_getElem?_getD, ei]
      simp
    rw [hg, ei, posH_more L J s _ (Nat.le_refl _)]
    refine ⟨hs, ?_⟩
    rw [Nat.add_mul_div_right _ _ (pow_pos2 _), Nat.div_eq_of_lt hV, Nat.zero_add, rev_rev, Nat.mod_eq_of_lt hF]
end Go.Proofs.Ytahgeeklenojjaa
