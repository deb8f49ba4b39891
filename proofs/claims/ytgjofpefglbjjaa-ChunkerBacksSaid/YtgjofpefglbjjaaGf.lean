/- Polynomials over two elements as numbers, in plain Lean: the ring, division with rest. Conditions: none. -/
import Derived.WalkKit
namespace Go.Proofs.Ytgjofpefglbjjaa.Gf

/-! ## bits and xor -/
theorem xor_bit (a b : Nat) : (a ^^^ b) % 2 = (a % 2 + b % 2) % 2 := by
  have h := Nat.testBit_xor a b 0
  simp only [Nat.testBit_zero] at h
  have ha := Nat.mod_two_eq_zero_or_one a
  have hb := Nat.mod_two_eq_zero_or_one b
  have hc := Nat.mod_two_eq_zero_or_one (a ^^^ b)
  rcases ha with ha | ha <;> rcases hb with hb | hb <;> rcases hc with hc | hc <;> simp [ha, hb, hc] at h ⊢
theorem xor_half (a b : Nat) : (a ^^^ b) / 2 = a / 2 ^^^ b / 2 := by
  apply Nat.eq_of_testBit_eq
  intro i
  simp only [Nat.testBit_xor, Nat.testBit_div_two]
theorem xor_dbl (a b : Nat) : 2 * a ^^^ 2 * b = 2 * (a ^^^ b) := by
  apply Nat.eq_of_testBit_eq
  intro i
  cases i with
  | zero => simp
  | succ i => simp [Nat.testBit_succ, xor_half]
theorem xor_lt {a b n : Nat} (ha : a < 2 ^ n) (hb : b < 2 ^ n) : a ^^^ b < 2 ^ n := Nat.xor_lt_two_pow ha hb
theorem xor_eq_zero {a b : Nat} (h : a ^^^ b = 0) : a = b := by
  have : (a ^^^ b) ^^^ b = b := by rw [h, Nat.zero_xor]
  rwa [Nat.xor_assoc, Nat.xor_self, Nat.xor_zero] at this
theorem xor_cancel (a b : Nat) : (a ^^^ b) ^^^ b = a := by rw [Nat.xor_assoc, Nat.xor_self, Nat.xor_zero]
theorem xor_swap4 (a b c d : Nat) : (a ^^^ b) ^^^ (c ^^^ d) = (a ^^^ c) ^^^ (b ^^^ d) := by
  rw [Nat.xor_assoc, Nat.xor_assoc, ← Nat.xor_assoc b c d, Nat.xor_comm b c, Nat.xor_assoc c b d]

/-! ## product -/
/-- The product. -/
def cl (a b : Nat) : Nat := if h : b = 0 then 0 else (if b % 2 = 1 then a else 0) ^^^ 2 * cl a (b / 2)
termination_by b
decreasing_by omega

theorem cl_zero (a : Nat) : cl a 0 = 0 := by unfold cl; rfl
theorem cl_eq (a b : Nat) : cl a b = (if b % 2 = 1 then a else 0) ^^^ 2 * cl a (b / 2) := by
  by_cases h : b = 0
  · subst h; simp [cl_zero]
  · conv => lhs; unfold cl
    rw [dif_neg h]
theorem zero_cl (b : Nat) : cl 0 b = 0 := by
  induction b using Nat.strongRecOn with
  | _ b ih =>
    by_cases h : b = 0
    · subst h; exact cl_zero 0
    · rw [cl_eq, ih (b / 2) (by omega)]; simp
theorem cl_one (a : Nat) : cl a 1 = a := by rw [cl_eq]; simp [cl_zero]
theorem cl_xor_left (a c b : Nat) : cl (a ^^^ c) b = cl a b ^^^ cl c b := by
  induction b using Nat.strongRecOn with
  | _ b ih =>
    by_cases h : b = 0
    · subst h; simp [cl_zero]
    · rw [cl_eq, cl_eq a b, cl_eq c b, ih (b / 2) (by omega), ← xor_dbl, xor_swap4]
      congr 1
      split <;> simp
theorem cl_dbl_left (a b : Nat) : cl (2 * a) b = 2 * cl a b := by
  induction b using Nat.strongRecOn with
  | _ b ih =>
    by_cases h : b = 0
    · subst h; simp [cl_zero]
    · rw [cl_eq, cl_eq a b, ih (b / 2) (by omega), ← xor_dbl]
      congr 1
      split <;> simp
theorem cl_dbl_right (a b : Nat) : cl a (2 * b) = 2 * cl a b := by
  rw [cl_eq, show 2 * b / 2 = b by omega, show 2 * b % 2 = 0 by omega]
  simp
theorem cl_xor_right (a b c : Nat) : cl a (b ^^^ c) = cl a b ^^^ cl a c := by
  induction b using Nat.strongRecOn generalizing c with
  | _ b ih =>
    by_cases h : b = 0
    · subst h; simp [cl_zero]
    · rw [cl_eq, cl_eq a b, cl_eq a c, xor_half, ih (b / 2) (by omega), ← xor_dbl, xor_swap4]
      congr 1
      rw [xor_bit]
      rcases Nat.mod_two_eq_zero_or_one b with hb | hb <;> rcases Nat.mod_two_eq_zero_or_one c with hc | hc <;> simp [hb, hc]
/-- a number by its lowest bit. -/
theorem split_bit (b : Nat) : b = (if b % 2 = 1 then 1 else 0) ^^^ 2 * (b / 2) := by
  apply Nat.eq_of_testBit_eq
  intro i
  cases i with
  | zero => rcases Nat.mod_two_eq_zero_or_one b with hb | hb <;> simp [hb]
  | succ i =>
    rw [Nat.testBit_xor]
    split <;> simp [Nat.testBit_succ]
theorem one_cl (b : Nat) : cl 1 b = b := by
  induction b using Nat.strongRecOn with
  | _ b ih =>
    by_cases h : b = 0
    · subst h; exact cl_zero 1
    · rw [cl_eq, ih (b / 2) (by omega)]; exact (split_bit b).symm
theorem cl_comm (a b : Nat) : cl a b = cl b a := by
  induction b using Nat.strongRecOn generalizing a with
  | _ b ih =>
    by_cases h : b = 0
    · subst h; rw [cl_zero, zero_cl]
    · conv => rhs; rw [split_bit b]
      rw [cl_xor_left, cl_dbl_left, ← ih (b / 2) (by omega), cl_eq]
      congr 1
      split
      · rw [one_cl]
      · rw [zero_cl]
theorem cl_assoc (a b c : Nat) : cl (cl a b) c = cl a (cl b c) := by
  induction c using Nat.strongRecOn with
  | _ c ih =>
    by_cases h : c = 0
    · subst h; simp [cl_zero]
    · rw [cl_eq, cl_eq b c, ih (c / 2) (by omega), cl_xor_right, cl_dbl_right]
      congr 1
      split
      · rfl
      · rw [cl_zero]
theorem cl_pow (a n : Nat) : cl a (2 ^ n) = a * 2 ^ n := by
  induction n with
  | zero => rw [Nat.pow_zero, cl_one, Nat.mul_one]
  | succ n ih => rw [Nat.pow_succ', cl_dbl_right, ih, Nat.mul_left_comm]

/-! ## degree -/
/-- The number of bits: one more than the degree. -/
def len (a : Nat) : Nat := if h : a = 0 then 0 else len (a / 2) + 1
termination_by a
decreasing_by omega
theorem len_zero : len 0 = 0 := by unfold len; rfl
theorem len_pos {a : Nat} (h : a ≠ 0) : len a = len (a / 2) + 1 := by conv => lhs; unfold len
                                                                      rw [dif_neg h]
theorem len_lt (a : Nat) : a < 2 ^ len a := by
  induction a using Nat.strongRecOn with
  | _ a ih =>
    by_cases h : a = 0
    · subst h; simp [len_zero]
    · rw [len_pos h, Nat.pow_succ]
      have := ih (a / 2) (by omega)
      omega
theorem len_ge {a : Nat} (h : a ≠ 0) : 2 ^ (len a - 1) ≤ a := by
  induction a using Nat.strongRecOn with
  | _ a ih =>
    rw [len_pos h, Nat.add_sub_cancel]
    by_cases h2 : a / 2 = 0
    · rw [h2, len_zero]; simp; omega
    · have h3 := ih (a / 2) (by omega) h2
      have h4 : len (a / 2) = len (a / 2) - 1 + 1 := by have := len_pos h2; omega
      rw [h4, Nat.pow_succ]
      omega
theorem len_le {a n : Nat} (h : a < 2 ^ n) : len a ≤ n := by
  by_cases h0 : a = 0
  · subst h0; simp [len_zero]
  · have h1 := len_ge h0
    have h2 : 2 ^ (len a - 1) < 2 ^ n := Nat.lt_of_le_of_lt h1 h
    have h3 := (Nat.pow_lt_pow_iff_right (by decide : 1 < 2)).1 h2
    omega
theorem len_is {a n : Nat} (h1 : 2 ^ n ≤ a) (h2 : a < 2 ^ (n + 1)) : len a = n + 1 := by
  have h3 := len_le h2
  have h4 := len_lt a
  have h5 : 2 ^ n < 2 ^ len a := Nat.lt_of_le_of_lt h1 h4
  have h6 := (Nat.pow_lt_pow_iff_right (by decide : 1 < 2)).1 h5
  omega
theorem len_eq_zero {a : Nat} : len a = 0 ↔ a = 0 := by
  constructor
  · intro h
    rcases Nat.eq_zero_or_pos a with h0 | h0
    · exact h0
    · have := len_pos (show a ≠ 0 by omega); omega
  · intro h; subst h; exact len_zero
theorem lt_of_len {a n : Nat} (h : len a ≤ n) : a < 2 ^ n := Nat.lt_of_lt_of_le (len_lt a) (Nat.pow_le_pow_right (by decide) h)
theorem len_dbl {a : Nat} (h : a ≠ 0) : len (2 * a) = len a + 1 := by
  rw [len_pos (by omega), show 2 * a / 2 = a by omega]
theorem len_shift {a : Nat} (h : a ≠ 0) (n : Nat) : len (a * 2 ^ n) = len a + n := by
  induction n with
  | zero => simp
  | succ n ih =>
    have : a * 2 ^ n ≠ 0 := Nat.mul_ne_zero h (Nat.ne_of_gt (Nat.pow_pos (by decide)))
    rw [Nat.pow_succ', Nat.mul_left_comm, len_dbl this, ih]; omega
theorem top_bit {a : Nat} (h : a ≠ 0) : a.testBit (len a - 1) = true := by
  have h1 := len_ge h
  have h2 := len_lt a
  have h3 : len a = len a - 1 + 1 := by have := len_pos h; omega
  rw [h3, Nat.pow_succ] at h2
  rw [Nat.testBit_eq_decide_div_mod_eq]
  have h4 : a / 2 ^ (len a - 1) = 1 := by
    refine Nat.div_eq_of_lt_le (by omega) (by omega)
  simp [h4]
theorem len_xor_lt {a b : Nat} (ha : a ≠ 0) (h : len a = len b) : len (a ^^^ b) < len a := by
  have h3 : len a = len a - 1 + 1 := by have := len_pos ha; omega
  have hb : b ≠ 0 := fun e => by rw [e, len_zero] at h; omega
  have h4 : a ^^^ b < 2 ^ (len a - 1) := by
    apply Nat.lt_pow_two_of_testBit
    intro i hi
    rw [Nat.testBit_xor]
    by_cases e : i = len a - 1
    · subst e
      rw [top_bit ha, h, top_bit hb]; rfl
    · have h5 : 2 ^ len a ≤ 2 ^ i := Nat.pow_le_pow_right (by decide) (by omega)
      have ha2 : a.testBit i = false := Nat.testBit_lt_two_pow (Nat.lt_of_lt_of_le (len_lt a) h5)
      have hb2 : b.testBit i = false := Nat.testBit_lt_two_pow (Nat.lt_of_lt_of_le (len_lt b) (by rw [← h]; exact h5))
      rw [ha2, hb2]; rfl
  have := len_le h4
  omega
theorem len_xor_le (a b : Nat) : len (a ^^^ b) ≤ max (len a) (len b) := by
  apply len_le
  exact xor_lt (lt_of_len (Nat.le_max_left _ _)) (lt_of_len (Nat.le_max_right _ _))
theorem len_xor_big {a b : Nat} (h : len b < len a) : len (a ^^^ b) = len a := by
  rcases Nat.lt_or_ge (len (a ^^^ b)) (len a) with h1 | h1
  · have h2 := len_xor_le (a ^^^ b) b
    rw [xor_cancel] at h2
    omega
  · have := len_xor_le a b
    omega
theorem len_cl {a b : Nat} (ha : a ≠ 0) (hb : b ≠ 0) : len (cl a b) + 1 = len a + len b := by
  induction b using Nat.strongRecOn with
  | _ b ih =>
    have hla := len_pos ha
    by_cases h2 : b / 2 = 0
    · have : b = 1 := by omega
      subst this
      rw [cl_one, show len 1 = 1 by rw [len_pos (by decide), show 1 / 2 = 0 from rfl, len_zero]]
    · have h3 := ih (b / 2) (by omega) h2
      have hlb := len_pos h2
      have hne : cl a (b / 2) ≠ 0 := fun e => by rw [e, len_zero] at h3; omega
      rw [cl_eq, len_pos hb]
      have h4 := len_dbl hne
      split
      · rw [Nat.xor_comm, len_xor_big (by rw [h4]; omega), h4]; omega
      · rw [Nat.zero_xor, h4]; omega
theorem cl_ne {a b : Nat} (ha : a ≠ 0) (hb : b ≠ 0) : cl a b ≠ 0 := fun e => by
  have := len_cl ha hb
  have h1 := len_pos ha
  have h2 := len_pos hb
  rw [e, len_zero] at this
  omega

/-! ## rest -/
/-- a and b have one rest by m. -/
def Eqm (m a b : Nat) : Prop := ∃ k, a ^^^ b = cl k m
theorem Eqm.refl (m a : Nat) : Eqm m a a := ⟨0, by rw [zero_cl, Nat.xor_self]⟩
theorem Eqm.symm {m a b : Nat} (h : Eqm m a b) : Eqm m b a := by obtain ⟨k, h⟩ := h; exact ⟨k, by rw [Nat.xor_comm, h]⟩
theorem Eqm.trans {m a b c : Nat} (h1 : Eqm m a b) (h2 : Eqm m b c) : Eqm m a c := by
  obtain ⟨k, h1⟩ := h1
  obtain ⟨l, h2⟩ := h2
  exact ⟨k ^^^ l, by rw [cl_xor_left, ← h1, ← h2, Nat.xor_assoc, ← Nat.xor_assoc b b c, Nat.xor_self, Nat.zero_xor]⟩
theorem Eqm.xor {m a b c d : Nat} (h1 : Eqm m a b) (h2 : Eqm m c d) : Eqm m (a ^^^ c) (b ^^^ d) := by
  obtain ⟨k, h1⟩ := h1
  obtain ⟨l, h2⟩ := h2
  exact ⟨k ^^^ l, by rw [cl_xor_left, ← h1, ← h2, xor_swap4]⟩
theorem Eqm.mul {m a b : Nat} (h : Eqm m a b) (c : Nat) : Eqm m (cl a c) (cl b c) := by
  obtain ⟨k, h⟩ := h
  exact ⟨cl k c, by rw [← cl_xor_left, h, cl_assoc, cl_comm m c, ← cl_assoc]⟩
theorem Eqm.mul2 {m a b c d : Nat} (h1 : Eqm m a b) (h2 : Eqm m c d) : Eqm m (cl a c) (cl b d) := by
  refine (h1.mul c).trans ?_
  rw [cl_comm b c, cl_comm b d]
  exact h2.mul b
theorem Eqm.self (m : Nat) (k : Nat) : Eqm m (cl k m) 0 := ⟨k, by rw [Nat.xor_zero]⟩
/-- Rests are equal where they are small. -/
theorem Eqm.small {m a b : Nat} (h : Eqm m a b) (ha : len a < len m) (hb : len b < len m) : a = b := by
  obtain ⟨k, h⟩ := h
  apply xor_eq_zero
  by_cases hk : k = 0
  · rw [h, hk, zero_cl]
  · have hm : m ≠ 0 := fun e => by rw [e, len_zero] at ha; omega
    have h1 := len_cl hk hm
    have h2 := len_pos hk
    have h3 := len_xor_le a b
    rw [h] at h3
    omega

/-- The rest. -/
def md (p m : Nat) : Nat := if h : m ≠ 0 ∧ len m ≤ len p then md (p ^^^ m * 2 ^ (len p - len m)) m else p
termination_by len p
decreasing_by
  obtain ⟨h1, h2⟩ := h
  have hp : p ≠ 0 := fun e => by rw [e, len_zero] at h2; have := len_pos h1; omega
  refine len_xor_lt hp ?_
  rw [len_shift h1]
  omega
theorem md_stop {p m : Nat} (h : len p < len m) : md p m = p := by
  unfold md
  rw [dif_neg (by omega)]
theorem md_step {p m : Nat} (hm : m ≠ 0) (h : len m ≤ len p) : md p m = md (p ^^^ m * 2 ^ (len p - len m)) m := by
  conv => lhs; unfold md
  rw [dif_pos ⟨hm, h⟩]
theorem step_lt {p m : Nat} (hm : m ≠ 0) (h : len m ≤ len p) : len (p ^^^ m * 2 ^ (len p - len m)) < len p := by
  have hp : p ≠ 0 := fun e => by rw [e, len_zero] at h; have := len_pos hm; omega
  refine len_xor_lt hp ?_
  rw [len_shift hm]
  omega
theorem md_spec (p : Nat) {m : Nat} (hm : m ≠ 0) : Eqm m (md p m) p ∧ len (md p m) < len m := by
  generalize hn : len p = n
  induction n using Nat.strongRecOn generalizing p with
  | _ n ih =>
    rcases Nat.lt_or_ge (len p) (len m) with h | h
    · rw [md_stop h]; exact ⟨Eqm.refl _ _, h⟩
    · rw [md_step hm h]
      have h1 := step_lt hm h
      have h2 := ih _ (by omega) (p ^^^ m * 2 ^ (len p - len m)) rfl
      refine ⟨h2.1.trans ⟨2 ^ (len p - len m), ?_⟩, h2.2⟩
      rw [cl_comm, cl_pow, Nat.xor_comm p, xor_cancel]
theorem md_is {p r m : Nat} (h : Eqm m r p) (hl : len r < len m) : md p m = r := by
  have hm : m ≠ 0 := fun e => by rw [e, len_zero] at hl; omega
  have h1 := md_spec p hm
  exact (h1.1.trans h.symm).small h1.2 hl
theorem md_eq {a b m : Nat} (hm : m ≠ 0) (h : Eqm m a b) : md a m = md b m := md_is ((md_spec b hm).1.trans h.symm) (md_spec b hm).2
theorem eqm_of_md {a b m : Nat} (hm : m ≠ 0) (h : md a m = md b m) : Eqm m a b := by
  have h1 := (md_spec a hm).1
  rw [h] at h1
  exact h1.symm.trans (md_spec b hm).1
theorem md_xor {a b m : Nat} (hm : m ≠ 0) : md (a ^^^ b) m = md a m ^^^ md b m := by
  refine md_is ((md_spec a hm).1.xor (md_spec b hm).1) ?_
  have h1 := len_xor_le (md a m) (md b m)
  have h2 := (md_spec a hm).2
  have h3 := (md_spec b hm).2
  omega
theorem md_mul {a b m : Nat} (hm : m ≠ 0) : md (cl (md a m) (md b m)) m = md (cl a b) m := md_eq hm ((md_spec a hm).1.mul2 (md_spec b hm).1)
theorem md_md {a m : Nat} (hm : m ≠ 0) : md (md a m) m = md a m := md_stop (md_spec a hm).2
theorem md_zero (m : Nat) : md 0 m = 0 := by
  by_cases hm : m = 0
  · unfold md; rw [dif_neg (by omega)]
  · exact md_stop (by rw [len_zero]; have := len_pos hm; omega)

/-! ## powers -/
/-- The rest of a power. -/
def pw (a m : Nat) : Nat → Nat
  | 0 => md 1 m
  | n + 1 => md (cl (pw a m n) a) m
theorem pw_add (a m i j : Nat) (hm : m ≠ 0) : md (cl (pw a m i) (pw a m j)) m = pw a m (i + j) := by
  induction j with
  | zero =>
    have h : md (cl (pw a m i) (md 1 m)) m = md (cl (pw a m i) 1) m := md_eq hm (by
      rw [cl_comm _ (md 1 m), cl_comm _ 1]
      exact (md_spec 1 hm).1.mul _)
    show md (cl (pw a m i) (md 1 m)) m = pw a m i
    rw [h, cl_one]
    cases i with
    | zero => exact md_md hm
    | succ i => exact md_md hm
  | succ j ih =>
    show md (cl (pw a m i) (md (cl (pw a m j) a) m)) m = md (cl (pw a m (i + j)) a) m
    rw [← ih]
    refine md_eq hm ?_
    refine Eqm.trans (b := cl (pw a m i) (cl (pw a m j) a)) ?_ ?_
    · exact (Eqm.refl m _).mul2 (md_spec _ hm).1
    · rw [← cl_assoc]
      exact ((md_spec _ hm).1.symm).mul a
theorem pw_small (a m i : Nat) (hm : m ≠ 0) : len (pw a m i) < len m := by
  cases i with
  | zero => exact (md_spec _ hm).2
  | succ i => exact (md_spec _ hm).2
theorem pw_base (a b m i : Nat) (hm : m ≠ 0) (h : Eqm m a b) : pw a m i = pw b m i := by
  induction i with
  | zero => rfl
  | succ i ih =>
    show md (cl (pw a m i) a) m = md (cl (pw b m i) b) m
    rw [ih]
    refine md_eq hm ((Eqm.refl m _).mul2 h)
theorem pw_sq (a m i : Nat) (hm : m ≠ 0) : pw (md (cl a a) m) m i = pw a m (2 * i) := by
  induction i with
  | zero => rfl
  | succ i ih =>
    rw [show 2 * (i + 1) = 2 * i + 1 + 1 by omega]
    show md (cl (pw (md (cl a a) m) m i) (md (cl a a) m)) m = md (cl (md (cl (pw a m (2 * i)) a) m) a) m
    rw [ih]
    refine md_eq hm ?_
    refine Eqm.trans (b := cl (pw a m (2 * i)) (cl a a)) ((Eqm.refl m _).mul2 (md_spec _ hm).1) ?_
    rw [← cl_assoc]
    exact ((md_spec _ hm).1.symm).mul a
end Go.Proofs.Ytgjofpefglbjjaa.Gf
