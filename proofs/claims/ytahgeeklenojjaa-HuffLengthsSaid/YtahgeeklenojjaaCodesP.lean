/- The codes of lengths, in plain numbers: they lie side by side, in order, and begin no other. Conditions: none. -/
namespace Go.Proofs.Ytahgeeklenojjaa

/-- A length's part of the whole (32768); 0: it is none. -/
def pt (L : Nat) : Nat := if 0 < L then 2 ^ (15 - L) else 0
/-- A sum over the first k. -/
def sumTo (f : Nat → Nat) : Nat → Nat
  | 0 => 0
  | k + 1 => sumTo f k + f k
def cntTo (p : Nat → Bool) : Nat → Nat
  | 0 => 0
  | k + 1 => cntTo p k + if p k then 1 else 0

theorem sumTo_le (f g : Nat → Nat) (k : Nat) (h : ∀ j, j < k → f j ≤ g j) : sumTo f k ≤ sumTo g k := by
  induction k with
  | zero => exact Nat.le_refl _
  | succ k ih =>
    have := ih (fun j hj => h j (by omega))
    have := h k (by omega)
    simp only [sumTo]; omega
theorem sumTo_congr (f g : Nat → Nat) (k : Nat) (h : ∀ j, j < k → f j = g j) : sumTo f k = sumTo g k :=
  Nat.le_antisymm (sumTo_le f g k fun j hj => Nat.le_of_eq (h j hj)) (sumTo_le g f k fun j hj => Nat.le_of_eq (h j hj).symm)
theorem sumTo_add (f g : Nat → Nat) (k : Nat) : sumTo (fun j => f j + g j) k = sumTo f k + sumTo g k := by
  induction k with
  | zero => rfl
  | succ k ih => simp only [sumTo, ih]; omega
theorem sumTo_one (s v : Nat) (k : Nat) (h : s < k) : sumTo (fun j => if j = s then v else 0) k = v := by
  induction k with
  | zero => omega
  | succ k ih =>
    simp only [sumTo]
    by_cases e : k = s
    · subst e
      have h0 : sumTo (fun j => if j = k then v else 0) k = 0 := by
        have : ∀ n, n ≤ k → sumTo (fun j => if j = k then v else 0) n = 0 := by
          intro n
          induction n with
          | zero => intro _; rfl
          | succ n ih2 => intro hn; simp only [sumTo, ih2 (by omega)]; rw [if_neg (by omega)]
        exact this k (Nat.le_refl _)
      rw [h0, if_pos rfl]; omega
    · rw [ih (by omega), if_neg e]; omega
theorem sumTo_dvd (d : Nat) (f : Nat → Nat) (k : Nat) (h : ∀ j, j < k → d ∣ f j) : d ∣ sumTo f k := by
  induction k with
  | zero => exact Nat.dvd_zero d
  | succ k ih => exact Nat.dvd_add (ih fun j hj => h j (by omega)) (h k (by omega))
theorem sumTo_bound (f : Nat → Nat) (B k : Nat) (h : ∀ j, j < k → f j ≤ B) : sumTo f k ≤ B * k := by
  induction k with
  | zero => exact Nat.zero_le _
  | succ k ih =>
    have := ih (fun j hj => h j (by omega))
    have := h k (by omega)
    simp only [sumTo, Nat.mul_succ]; omega
theorem cntTo_le (p : Nat → Bool) (k : Nat) : cntTo p k ≤ k := by
  induction k with
  | zero => exact Nat.le_refl _
  | succ k ih => simp only [cntTo]; split <;> omega

/-- Does t's code stand ahead of s's? -/
def ahead (L : Nat → Nat) (t s : Nat) : Bool := decide (0 < L t) && (decide (L t < L s) || (decide (L t = L s) && decide (t < s)))
/-- Where s's code begins, in parts. -/
def pre (L : Nat → Nat) (n s : Nat) : Nat := sumTo (fun t => if ahead L t s then pt (L t) else 0) n
/-- s's code. -/
def codeOf (L : Nat → Nat) (n s : Nat) : Nat := pre L n s / 2 ^ (15 - L s)
/-- All parts. -/
def parts (L : Nat → Nat) (n : Nat) : Nat := sumTo (fun t => pt (L t)) n
def someOf (L : Nat → Nat) (n : Nat) : Nat := cntTo (fun t => decide (0 < L t)) n

theorem pt_le (L : Nat) : pt L ≤ 16384 := by
  unfold pt
  split
  · have : 2 ^ (15 - L) ≤ 2 ^ 14 := Nat.pow_le_pow_right (by decide) (by omega)
    exact this
  · exact Nat.zero_le _
theorem parts_le (L : Nat → Nat) (n : Nat) : parts L n ≤ 16384 * n := sumTo_bound _ _ _ fun j _ => pt_le (L j)

theorem pre_dvd (L : Nat → Nat) (n s : Nat) : 2 ^ (15 - L s) ∣ pre L n s := by
  refine sumTo_dvd _ _ _ fun t _ => ?_
  split
  · rename_i h
    unfold ahead at h
    simp only [Bool.and_eq_true, Bool.or_eq_true, decide_eq_true_eq] at h
    unfold pt
    rw [if_pos h.1]
    exact Nat.pow_dvd_pow 2 (by omega)
  · exact Nat.dvd_zero _

theorem pre_end (L : Nat → Nat) (n s : Nat) (hs : s < n) (h0 : 0 < L s) : pre L n s + 2 ^ (15 - L s) ≤ parts L n := by
  have e : pre L n s + 2 ^ (15 - L s) = sumTo (fun t => (if ahead L t s then pt (L t) else 0) + if t = s then 2 ^ (15 - L s) else 0) n := by
    rw [sumTo_add, sumTo_one s _ n hs]; rfl
  rw [e]
  refine sumTo_le _ _ _ fun t _ => ?_
  by_cases e : t = s
  · subst e
    have ha : ahead L t t = false := by unfold ahead; simp
    rw [ha, if_pos rfl]
    unfold pt
    rw [if_pos h0]
    simp
  · rw [if_neg e]
    split <;> omega

theorem pre_before (L : Nat → Nat) (n s t : Nat) (hs : s < n) (h : ahead L s t = true) : pre L n s + 2 ^ (15 - L s) ≤ pre L n t := by
  have e : pre L n s + 2 ^ (15 - L s) = sumTo (fun r => (if ahead L r s then pt (L r) else 0) + if r = s then 2 ^ (15 - L s) else 0) n := by
    rw [sumTo_add, sumTo_one s _ n hs]; rfl
  rw [e]
  refine sumTo_le _ _ _ fun r _ => ?_
  by_cases e : r = s
  · subst e
    have ha : ahead L r r = false := by unfold ahead; simp
    rw [ha, if_pos rfl, h]
    unfold ahead at h
    simp only [Bool.and_eq_true, decide_eq_true_eq] at h
    unfold pt
    rw [if_pos h.1]
    simp
  · rw [if_neg e]
    by_cases h2 : ahead L r s = true
    · have h3 : ahead L r t = true := by
        unfold ahead at *
        simp only [Bool.and_eq_true, Bool.or_eq_true, decide_eq_true_eq] at *
        omega
      rw [h2, h3]
      simp
    · simp only [Bool.not_eq_true] at h2
      rw [h2]
      simp

theorem code_fits (L : Nat → Nat) (n s : Nat) (hs : s < n) (h0 : 0 < L s) (h15 : L s ≤ 15) (hp : parts L n ≤ 32768) : codeOf L n s < 2 ^ L s := by
  unfold codeOf
  rw [Nat.div_lt_iff_lt_mul (Nat.pow_pos (by decide)), ← Nat.pow_add, show L s + (15 - L s) = 15 by omega]
  have := pre_end L n s hs h0
  have h1 : 0 < 2 ^ (15 - L s) := Nat.pow_pos (by decide)
  have h2 : (2 : Nat) ^ 15 = 32768 := by decide
  omega

/-- No code begins another one: the one that stands ahead. -/
theorem code_apart (L : Nat → Nat) (n s t : Nat) (hs : s < n) (h : ahead L s t = true) (h15 : L t ≤ 15) : codeOf L n t / 2 ^ (L t - L s) ≠ codeOf L n s := by
  have hb := pre_before L n s t hs h
  have hle : L s ≤ L t := by
    unfold ahead at h
    simp only [Bool.and_eq_true, Bool.or_eq_true, decide_eq_true_eq] at h
    omega
  unfold codeOf
  rw [Nat.div_div_eq_div_mul, ← Nat.pow_add, show 15 - L t + (L t - L s) = 15 - L s by omega]
  have hp : 0 < 2 ^ (15 - L s) := Nat.pow_pos (by decide)
  have h1 : (pre L n s + 2 ^ (15 - L s)) / 2 ^ (15 - L s) ≤ pre L n t / 2 ^ (15 - L s) := Nat.div_le_div_right hb
  rw [Nat.add_div_right _ hp] at h1
  omega
theorem ahead_total (L : Nat → Nat) (s t : Nat) (hs : 0 < L s) (ht : 0 < L t) (h : s ≠ t) : ahead L s t = true ∨ ahead L t s = true := by
  unfold ahead
  simp only [Bool.and_eq_true, Bool.or_eq_true, decide_eq_true_eq]
  omega
end Go.Proofs.Ytahgeeklenojjaa
