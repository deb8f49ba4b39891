/- The calendar in plain numbers: months from January 1970 on. Conditions: none. -/
import Derived.WalkKit
namespace Go.Proofs.Ytcblcjbflgepoaa

def leapN (y : Nat) : Bool := decide (y % 4 = 0 ∧ (y % 100 ≠ 0 ∨ y % 400 = 0))
/-- How many days there are ahead of year y, from year 0 on. -/
def dty (y : Nat) : Nat := 365 * y + (y + 3) / 4 + (y + 399) / 400 - (y + 99) / 100
/-- How many days month k, from 0 on, has. -/
def lenM (y k : Nat) : Nat := if k = 1 then (if leapN y then 29 else 28) else if k = 3 ∨ k = 5 ∨ k = 8 ∨ k = 10 then 30 else 31
def lenY (y : Nat) : Nat := if leapN y then 366 else 365
def cum (y : Nat) : Nat → Nat
  | 0 => 0
  | k + 1 => cum y k + lenM y k
/-- How many days there are ahead of month m from January 1970 on, from year 0 on. -/
def mo (m : Nat) : Nat := dty (1970 + m / 12) + cum (1970 + m / 12) (m % 12)

theorem dty_succ (y : Nat) : dty (y + 1) = dty y + lenY y := by
  unfold dty lenY leapN
  by_cases h4 : y % 4 = 0 <;> by_cases h100 : y % 100 = 0 <;> by_cases h400 : y % 400 = 0 <;> simp [h4, h100, h400] <;> omega
theorem cum_12 (y : Nat) : cum y 12 = lenY y := by
  unfold lenY
  simp only [cum, lenM]
  by_cases h : leapN y <;> simp [h]
theorem lenM_ge (y k : Nat) : 28 ≤ lenM y k := by unfold lenM; split <;> (split <;> omega)
theorem lenM_le (y k : Nat) : lenM y k ≤ 31 := by unfold lenM; split <;> (split <;> omega)
theorem mo_succ (m : Nat) : mo (m + 1) = mo m + lenM (1970 + m / 12) (m % 12) := by
  unfold mo
  by_cases h : m % 12 = 11
  · have e1 : (m + 1) / 12 = m / 12 + 1 := by omega
    have e2 : (m + 1) % 12 = 0 := by omega
    rw [e1, e2, h, ← Nat.add_assoc, dty_succ, ← cum_12]
    simp only [cum]
    omega
  · have e1 : (m + 1) / 12 = m / 12 := by omega
    have e2 : (m + 1) % 12 = m % 12 + 1 := by omega
    rw [e1, e2]
    simp only [cum]
    omega
theorem mo_year (Y : Nat) : mo (12 * Y) = dty (1970 + Y) := by
  unfold mo
  rw [show 12 * Y / 12 = Y by omega, show 12 * Y % 12 = 0 by omega]
  rfl
theorem mo_next (Y : Nat) : mo (12 * (Y + 1)) = mo (12 * Y) + lenY (1970 + Y) := by
  rw [mo_year, mo_year, ← Nat.add_assoc, dty_succ]
theorem mo_zero : mo 0 = 719528 := by decide
theorem dty_400 (y : Nat) : dty (y + 400) = dty y + 146097 := by unfold dty; omega
theorem leap_400 (y : Nat) : leapN (y + 400) = leapN y := by
  unfold leapN
  rw [show (y + 400) % 4 = y % 4 by omega, show (y + 400) % 100 = y % 100 by omega, show (y + 400) % 400 = y % 400 by omega]
theorem cum_400 (y k : Nat) : cum (y + 400) k = cum y k := by
  induction k with
  | zero => rfl
  | succ k ih => simp only [cum, ih, lenM, leap_400]
theorem mo_4800 (m : Nat) : mo (m + 4800) = mo m + 146097 := by
  unfold mo
  rw [show (m + 4800) / 12 = m / 12 + 400 by omega, show (m + 4800) % 12 = m % 12 by omega, ← Nat.add_assoc, dty_400, cum_400]
  omega
theorem mo_le (m k : Nat) : mo m + 28 * k ≤ mo (m + k) := by
  induction k with
  | zero => simp
  | succ k ih =>
    have := lenM_ge (1970 + (m + k) / 12) ((m + k) % 12)
    rw [← Nat.add_assoc, mo_succ]
    omega
theorem mo_mono {a b : Nat} (h : a ≤ b) : mo a ≤ mo b := by
  have := mo_le a (b - a)
  rw [show a + (b - a) = b by omega] at this
  omega
theorem mo_uniq {x a b : Nat} (h1 : mo a ≤ x) (h2 : x < mo (a + 1)) (h3 : mo b ≤ x) (h4 : x < mo (b + 1)) : a = b := by
  rcases Nat.lt_trichotomy a b with h | h | h
  · have := mo_mono (show a + 1 ≤ b from h); omega
  · exact h
  · have := mo_mono (show b + 1 ≤ a from h); omega
/-- The month in which day D from 1 January 1970 on lies. -/
def mon : Nat → Nat
  | 0 => 0
  | D + 1 => if mo (mon D + 1) ≤ D + 1 + 719528 then mon D + 1 else mon D
theorem mon_spec (D : Nat) : mo (mon D) ≤ D + 719528 ∧ D + 719528 < mo (mon D + 1) := by
  induction D with
  | zero => decide
  | succ D ih =>
    have := lenM_ge (1970 + (mon D + 1) / 12) ((mon D + 1) % 12)
    have e := mo_succ (mon D + 1)
    unfold mon
    split
    · omega
    · omega
theorem mon_is {D m : Nat} (h1 : mo m ≤ D + 719528) (h2 : D + 719528 < mo (m + 1)) : mon D = m := mo_uniq (mon_spec D).1 (mon_spec D).2 h1 h2
theorem mon_step (D : Nat) : mon (D + 1) = mon D ∨ mon (D + 1) = mon D + 1 := by
  rw [mon]; split
  · exact .inr rfl
  · exact .inl rfl
theorem mon_le {a b : Nat} (h : a ≤ b) : mon a ≤ mon b := by
  obtain ⟨k, rfl⟩ := Nat.exists_eq_add_of_le h
  clear h
  induction k with
  | zero => exact Nat.le_refl _
  | succ k ih =>
    rcases mon_step (a + k) with e | e
    · rw [← Nat.add_assoc, e]; exact ih
    · rw [← Nat.add_assoc, e]; omega
theorem mon_4800 (D : Nat) : mon (D + 146097) = mon D + 4800 := by
  have h := mon_spec D
  refine mon_is ?_ ?_
  · rw [mo_4800]; omega
  · rw [show mon D + 4800 + 1 = mon D + 1 + 4800 by omega, mo_4800]; omega
/-- The day of the month, from 0 on. -/
def dom (D : Nat) : Nat := D + 719528 - mo (mon D)
theorem dom_lt (D : Nat) : dom D < lenM (1970 + mon D / 12) (mon D % 12) := by
  have h := mon_spec D
  rw [mo_succ] at h
  unfold dom
  omega
theorem dom_is {D m d : Nat} (h1 : mo m + d = D + 719528) (h2 : d < lenM (1970 + m / 12) (m % 12)) : mon D = m ∧ dom D = d := by
  have e : mon D = m := mon_is (by omega) (by rw [mo_succ]; omega)
  refine ⟨e, ?_⟩
  unfold dom
  rw [e]
  omega
theorem dom_31 (D : Nat) : dom D < 31 := Nat.lt_of_lt_of_le (dom_lt D) (lenM_le _ _)
theorem dom_400 (D : Nat) : dom (D + 146097) = dom D := by
  have h := mon_spec D
  unfold dom
  rw [mon_4800, mo_4800]
  omega
theorem mon_lt {D : Nat} (h : D ≤ 2932896) : mon D < 96360 := by
  rcases Nat.lt_or_ge (mon D) 96360 with h1 | h1
  · exact h1
  · have h2 := mo_mono h1
    have h3 : mo 96360 = 3652425 := by decide
    have := (mon_spec D).1
    omega
theorem mo_small {m : Nat} (h : m < 96360) : mo (m + 1) ≤ 3652425 := by
  have h2 := mo_mono (show m + 1 ≤ 96360 from h)
  have h3 : mo 96360 = 3652425 := by decide
  omega

/-! ## Dates -/
/-- The date as one number. -/
def ymd (D : Nat) : Nat := (1970 + mon D / 12) * 10000 + (mon D % 12 + 1) * 100 + (dom D + 1)
theorem ymd_step (D : Nat) : ymd D < ymd (D + 1) := by
  have h1 := mon_spec D
  have h2 := mon_spec (D + 1)
  have h3 := dom_31 D
  have h4 := dom_31 (D + 1)
  unfold ymd
  rcases mon_step D with e | e
  · have : dom (D + 1) = dom D + 1 := by unfold dom; rw [e] at h2 ⊢; omega
    rw [e, this]; omega
  · rw [e]
    by_cases hk : mon D % 12 = 11
    · rw [show (mon D + 1) / 12 = mon D / 12 + 1 by omega, show (mon D + 1) % 12 = 0 by omega]; omega
    · rw [show (mon D + 1) / 12 = mon D / 12 by omega, show (mon D + 1) % 12 = mon D % 12 + 1 by omega]; omega
theorem ymd_lt {a b : Nat} (h : a < b) : ymd a < ymd b := by
  obtain ⟨k, rfl⟩ := Nat.exists_eq_add_of_le (show a + 1 ≤ b from h)
  clear h
  induction k with
  | zero => exact ymd_step a
  | succ k ih => exact Nat.lt_trans ih (ymd_step _)
theorem ymd_le {a b : Nat} : ymd a ≤ ymd b ↔ a ≤ b := by
  constructor
  · intro h
    rcases Nat.lt_or_ge b a with h1 | h1
    · have := ymd_lt h1; omega
    · exact h1
  · intro h
    rcases Nat.lt_or_eq_of_le h with h1 | rfl
    · exact Nat.le_of_lt (ymd_lt h1)
    · exact Nat.le_refl _
theorem ymd_inj {a b : Nat} (h : ymd a = ymd b) : a = b := Nat.le_antisymm (ymd_le.1 (Nat.le_of_eq h)) (ymd_le.1 (Nat.le_of_eq h.symm))

/-- Digit k, from the lowest on, as a byte. -/
def dg (n k : Nat) : UInt8 := UInt8.ofNat (48 + n / 10 ^ k % 10)
theorem dg_nat (n k : Nat) : (dg n k).toNat = 48 + n / 10 ^ k % 10 := by
  unfold dg
  rw [UInt8.toNat_ofNat']
  have : n / 10 ^ k % 10 < 10 := Nat.mod_lt _ (by decide)
  omega
/-- Three numbers as 0000-00-00. -/
def dtext (y m d : Nat) : List UInt8 := [dg y 3, dg y 2, dg y 1, dg y 0, 45, dg m 1, dg m 0, 45, dg d 1, dg d 0]
def dateL (D : Nat) : List UInt8 := dtext (1970 + mon D / 12) (mon D % 12 + 1) (dom D + 1)
theorem dateL_length (D : Nat) : (dateL D).length = 10 := rfl
theorem y_lt {D : Nat} (h : D ≤ 2932896) : 1970 + mon D / 12 < 10000 := by have := mon_lt h; omega

theorem less_cons (a b : UInt8) (l m : List UInt8) : Op.bytesLess (a :: l) (b :: m) = (decide (a < b) || (a == b && Op.bytesLess l m)) := by conv => lhs; unfold Op.bytesLess
theorem dv (y : Nat) : y / 100 = y / 10 / 10 ∧ y / 1000 = y / 10 / 10 / 10 := by omega
/-- Digits compare as the numbers do. -/
theorem less_dg (a b k j : Nat) (l m : List UInt8) : Op.bytesLess (dg a k :: l) (dg b j :: m) = (decide (a / 10 ^ k % 10 < b / 10 ^ j % 10) || (decide (a / 10 ^ k % 10 = b / 10 ^ j % 10) && Op.bytesLess l m)) := by
  have ha : a / 10 ^ k % 10 < 10 := Nat.mod_lt _ (by decide)
  have hb : b / 10 ^ j % 10 < 10 := Nat.mod_lt _ (by decide)
  have h1 : (dg a k < dg b j) ↔ a / 10 ^ k % 10 < b / 10 ^ j % 10 := by
    rw [UInt8.lt_iff_toNat_lt, dg_nat, dg_nat]; omega
  have h2 : (dg a k = dg b j) ↔ a / 10 ^ k % 10 = b / 10 ^ j % 10 := by
    rw [← UInt8.toNat_inj, dg_nat, dg_nat]; omega
  rw [less_cons, Bool.eq_iff_iff]
  simp only [Bool.or_eq_true, Bool.and_eq_true, decide_eq_true_eq, beq_iff_eq, h1, h2]
theorem less_dash (l m : List UInt8) : Op.bytesLess (45 :: l) (45 :: m) = Op.bytesLess l m := by
  conv => lhs; unfold Op.bytesLess
  simp
theorem four (y : Nat) (h : y < 10000) : ∃ a b c e, y = 1000 * a + 100 * b + 10 * c + e ∧ a < 10 ∧ b < 10 ∧ c < 10 ∧ e < 10 :=
  ⟨y / 1000, y / 100 % 10, y / 10 % 10, y % 10, by have := dv y; omega, by omega, by omega, by omega, by omega⟩
theorem two (y : Nat) (h : y < 100) : ∃ c e, y = 10 * c + e ∧ c < 10 ∧ e < 10 := ⟨y / 10, y % 10, by omega, by omega, by omega⟩
theorem four_dg (a b c e : Nat) (h1 : a < 10) (h2 : b < 10) (h3 : c < 10) (h4 : e < 10) : (1000 * a + 100 * b + 10 * c + e) / 10 ^ 3 % 10 = a ∧ (1000 * a + 100 * b + 10 * c + e) / 10 ^ 2 % 10 = b ∧ (1000 * a + 100 * b + 10 * c + e) / 10 ^ 1 % 10 = c ∧ (1000 * a + 100 * b + 10 * c + e) / 10 ^ 0 % 10 = e := by
  simp; omega
theorem two_dg (c e : Nat) (h3 : c < 10) (h4 : e < 10) : (10 * c + e) / 10 ^ 1 % 10 = c ∧ (10 * c + e) / 10 ^ 0 % 10 = e := by
  simp; omega
theorem dtext_less (y m d y' m' d' : Nat) (h1 : y < 10000) (h2 : y' < 10000) (h3 : m < 100) (h4 : m' < 100) (h5 : d < 100) (h6 : d' < 100) :
    Op.bytesLess (dtext y m d) (dtext y' m' d') = decide (y * 10000 + m * 100 + d < y' * 10000 + m' * 100 + d') := by
  obtain ⟨a, b, c, e, rfl, ha, hb, hc, he⟩ := four y h1
  obtain ⟨a', b', c', e', rfl, ha', hb', hc', he'⟩ := four y' h2
  obtain ⟨f, g, rfl, hf, hg⟩ := two m h3
  obtain ⟨f', g', rfl, hf', hg'⟩ := two m' h4
  obtain ⟨i, j, rfl, hi, hj⟩ := two d h5
  obtain ⟨i', j', rfl, hi', hj'⟩ := two d' h6
  have q1 := four_dg a b c e ha hb hc he
  have q2 := four_dg a' b' c' e' ha' hb' hc' he'
  have q3 := two_dg f g hf hg
  have q4 := two_dg f' g' hf' hg'
  have q5 := two_dg i j hi hj
  have q6 := two_dg i' j' hi' hj'
  unfold dtext
  simp only [less_dg, less_dash]
  rw [show Op.bytesLess [] [] = false from rfl, q1.1, q1.2.1, q1.2.2.1, q1.2.2.2, q2.1, q2.2.1, q2.2.2.1, q2.2.2.2, q3.1, q3.2, q4.1, q4.2, q5.1, q5.2, q6.1, q6.2, Bool.eq_iff_iff]
  clear q1 q2 q3 q4 q5 q6 h1 h2 h3 h4 h5 h6
  simp only [Bool.or_eq_true, Bool.and_eq_true, decide_eq_true_eq, Bool.and_false, Bool.or_false]
  omega
theorem dtext_inj (y m d y' m' d' : Nat) (h1 : y < 10000) (h2 : y' < 10000) (h3 : m < 100) (h4 : m' < 100) (h5 : d < 100) (h6 : d' < 100) :
    dtext y m d = dtext y' m' d' ↔ y * 10000 + m * 100 + d = y' * 10000 + m' * 100 + d' := by
  constructor
  · intro h
    unfold dtext at h
    simp only [List.cons.injEq, ← UInt8.toNat_inj, dg_nat] at h
    obtain ⟨a, b, c, e, rfl, ha, hb, hc, he⟩ := four y h1
    obtain ⟨a', b', c', e', rfl, ha', hb', hc', he'⟩ := four y' h2
    obtain ⟨f, g, rfl, hf, hg⟩ := two m h3
    obtain ⟨f', g', rfl, hf', hg'⟩ := two m' h4
    obtain ⟨i, j, rfl, hi, hj⟩ := two d h5
    obtain ⟨i', j', rfl, hi', hj'⟩ := two d' h6
    have q1 := four_dg a b c e ha hb hc he
    have q2 := four_dg a' b' c' e' ha' hb' hc' he'
    have q3 := two_dg f g hf hg
    have q4 := two_dg f' g' hf' hg'
    have q5 := two_dg i j hi hj
    have q6 := two_dg i' j' hi' hj'
    rw [q1.1, q1.2.1, q1.2.2.1, q1.2.2.2, q2.1, q2.2.1, q2.2.2.1, q2.2.2.2, q3.1, q3.2, q4.1, q4.2, q5.1, q5.2, q6.1, q6.2] at h
    clear q1 q2 q3 q4 q5 q6
    omega
  · intro h
    obtain ⟨rfl, rfl, rfl⟩ : y = y' ∧ m = m' ∧ d = d' := by omega
    rfl
theorem dateL_less {a b : Nat} (ha : a ≤ 2932896) (hb : b ≤ 2932896) : Op.bytesLess (dateL a) (dateL b) = decide (a < b) := by
  have h1 := dom_31 a
  have h2 := dom_31 b
  have h3 := y_lt ha
  have h4 := y_lt hb
  unfold dateL
  rw [dtext_less _ _ _ _ _ _ h3 h4 (by omega) (by omega) (by omega) (by omega)]
  refine decide_eq_decide.2 ⟨fun h => ?_, fun h => ymd_lt h⟩
  rcases Nat.lt_or_ge a b with h5 | h5
  · exact h5
  · have := ymd_le.2 h5
    unfold ymd at this
    omega
theorem dateL_inj {a b : Nat} (ha : a ≤ 2932896) (hb : b ≤ 2932896) : dateL a = dateL b ↔ a = b := by
  have h1 := dom_31 a
  have h2 := dom_31 b
  have h3 := y_lt ha
  have h4 := y_lt hb
  unfold dateL
  rw [dtext_inj _ _ _ _ _ _ h3 h4 (by omega) (by omega) (by omega) (by omega)]
  exact ⟨fun h => ymd_inj h, fun h => by rw [h]⟩
end Go.Proofs.Ytcblcjbflgepoaa
