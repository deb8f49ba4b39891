/- Polynomials over two elements: powers by squares, common divisors, texts, the test of primes, all in plain Lean. Conditions: none. -/
import Derived.Test.YtgjofpefglbjjaaGf
namespace Go.Proofs.Ytgjofpefglbjjaa.Gf

/-- What Power's loop holds. -/
def PRel (m p n P N R : Nat) : Prop := len R < len m ∧ md (cl R (pw P m N)) m = pw p m n
theorem prel_start (m p n : Nat) (hm : m ≠ 0) : PRel m p n p n (md 1 m) := by
  refine ⟨(md_spec 1 hm).2, ?_⟩
  have h : md (cl (md 1 m) (pw p m n)) m = md (cl 1 (pw p m n)) m := md_eq hm ((md_spec 1 hm).1.mul _)
  rw [h, one_cl]
  exact md_stop (pw_small p m n hm)
theorem prel_end {m p n P R : Nat} (hm : m ≠ 0) (h : PRel m p n P 0 R) : R = pw p m n := by
  rw [← h.2]
  show R = md (cl R (md 1 m)) m
  have e : md (cl R (md 1 m)) m = md (cl R 1) m := md_eq hm ((Eqm.refl m R).mul2 (md_spec 1 hm).1)
  rw [e, cl_one, md_stop h.1]
theorem prel_even {m p n P N R : Nat} (hm : m ≠ 0) (h : PRel m p n P N R) (hN : N % 2 = 0) : PRel m p n (md (cl P P) m) (N / 2) R := by
  refine ⟨h.1, ?_⟩
  rw [pw_sq P m (N / 2) hm, show 2 * (N / 2) = N by omega]
  exact h.2
theorem prel_odd {m p n P N R : Nat} (hm : m ≠ 0) (h : PRel m p n P N R) (hN : N % 2 = 1) : PRel m p n (md (cl P P) m) (N / 2) (md (cl R P) m) := by
  refine ⟨(md_spec _ hm).2, ?_⟩
  rw [← h.2, pw_sq P m (N / 2) hm]
  have e : pw P m N = md (cl (pw P m (2 * (N / 2))) P) m := by
    conv => lhs; rw [show N = 2 * (N / 2) + 1 by omega]
    rfl
  rw [e]
  refine md_eq hm ?_
  refine Eqm.trans (b := cl (cl R P) (pw P m (2 * (N / 2)))) ((md_spec _ hm).1.mul _) ?_
  refine Eqm.symm ?_
  refine Eqm.trans (b := cl R (cl (pw P m (2 * (N / 2))) P)) ((Eqm.refl m R).mul2 (md_spec _ hm).1) ?_
  rw [cl_comm (pw P m (2 * (N / 2))) P, ← cl_assoc]
  exact Eqm.refl _ _

/-- The greatest common divisor. -/
def gc (p q : Nat) : Nat := if _h : q = 0 then p else gc q (md p q)
termination_by len q
decreasing_by exact (md_spec p (by assumption)).2
theorem gc_zero (p : Nat) : gc p 0 = p := by unfold gc; rfl
theorem gc_step (p : Nat) {q : Nat} (h : q ≠ 0) : gc p q = gc q (md p q) := by
  conv => lhs; unfold gc
  rw [dif_neg h]

/-- The polynomial of a text. -/
def tx (l : List UInt8) : Nat := l.foldl (fun a c => a * 256 + c.toNat) 0
theorem tx_snoc (l : List UInt8) (c : UInt8) : tx (l ++ [c]) = tx l * 256 + c.toNat := by simp [tx]
theorem add_xor (a c : Nat) (h : c < 256) : a * 256 + c = cl a 256 ^^^ c := by
  rw [show (256 : Nat) = 2 ^ 8 by decide, cl_pow]
  have h2 := Nat.shiftLeft_add_eq_or_of_lt (i := 8) (b := c) (by simpa using h) a
  rw [Nat.shiftLeft_eq] at h2
  rw [h2]
  apply Nat.eq_of_testBit_eq
  intro i
  rw [Nat.testBit_or, Nat.testBit_xor]
  rcases Nat.lt_or_ge i 8 with hi | hi
  · have : (a * 2 ^ 8).testBit i = false := by
      rw [Nat.mul_comm, Nat.testBit_two_pow_mul]
      simp; omega
    simp [this]
  · have : c.testBit i = false := Nat.testBit_lt_two_pow (Nat.lt_of_lt_of_le h (by
      have := Nat.pow_le_pow_right (n := 2) (by decide) hi
      simpa using this))
    simp [this]

/-! ## the test of primes -/
/-- x to the power of 2^i, by its rest. -/
def zi (p : Nat) : Nat → Nat
  | 0 => 2
  | i + 1 => md (cl (zi p i) (zi p i)) p
def prOk (p i : Nat) : Bool := gc p (md (zi p i ^^^ 2) p) == 1
/-- All up to k pass. -/
def prAll (p : Nat) : Nat → Bool
  | 0 => true
  | k + 1 => prAll p k && prOk p (k + 1)
theorem prAll_of {p k : Nat} (h : ∀ i, 1 ≤ i → i ≤ k → prOk p i = true) : prAll p k = true := by
  induction k with
  | zero => rfl
  | succ k ih => simp only [prAll, ih (fun i h1 h2 => h i h1 (by omega)), h (k + 1) (by omega) (Nat.le_refl _), Bool.and_self]
theorem prAll_not {p k i : Nat} (h1 : 1 ≤ i) (h2 : i ≤ k) (h : prOk p i = false) : prAll p k = false := by
  induction k with
  | zero => omega
  | succ k ih =>
    by_cases e : i = k + 1
    · subst e; simp [prAll, h]
    · simp [prAll, ih (by omega)]
theorem prAll_ok {p k i : Nat} (h : prAll p k = true) (h1 : 1 ≤ i) (h2 : i ≤ k) : prOk p i = true := by
  cases e : prOk p i
  · rw [prAll_not h1 h2 e] at h; cases h
  · rfl
theorem zi_small (p i : Nat) (hp : p ≠ 0) (h2 : 2 < len p) : len (zi p i) < len p := by
  cases i with
  | zero => show len 2 < _; rw [show len 2 = 2 by rw [len_pos (by decide), len_pos (by decide), show 2 / 2 / 2 = 0 from rfl, len_zero]]; exact h2
  | succ i => exact (md_spec _ hp).2

/-! ## the same, fit for the kernel -/
def lenF (a : Nat) : Nat := if a = 0 then 0 else a.log2 + 1
theorem len_lenF (a : Nat) : len a = lenF a := by
  unfold lenF
  by_cases h : a = 0
  · subst h; simp [len_zero]
  · rw [if_neg h]
    exact len_is (Nat.log2_self_le h) (Nat.lt_log2_self)
def clF : Nat → Nat → Nat → Nat
  | 0, _, _ => 0
  | f + 1, a, b => (if b % 2 = 1 then a else 0) ^^^ 2 * clF f a (b / 2)
theorem cl_clF (f a b : Nat) (h : b < 2 ^ f) : cl a b = clF f a b := by
  induction f generalizing b with
  | zero =>
    have : b = 0 := by simpa using h
    subst this; rw [cl_zero]; rfl
  | succ f ih =>
    rw [cl_eq, ih (b / 2) (by rw [Nat.pow_succ] at h; omega)]; rfl
def mdF : Nat → Nat → Nat → Nat
  | 0, p, _ => p
  | f + 1, p, m => if lenF m ≤ lenF p then mdF f (p ^^^ m * 2 ^ (lenF p - lenF m)) m else p
theorem md_mdF (f p m : Nat) (hm : m ≠ 0) (h : lenF p ≤ f) : md p m = mdF f p m := by
  induction f generalizing p with
  | zero =>
    have : len p = 0 := by rw [len_lenF]; omega
    have hp := len_eq_zero.1 this
    subst hp
    rw [md_zero]; rfl
  | succ f ih =>
    unfold mdF
    by_cases hl : lenF m ≤ lenF p
    · rw [if_pos hl]
      have hl2 : len m ≤ len p := by rw [len_lenF, len_lenF]; exact hl
      have hlt := step_lt hm hl2
      rw [md_step hm hl2, len_lenF p, len_lenF m]
      rw [len_lenF p, len_lenF m, len_lenF] at hlt
      exact ih _ (by omega)
    · rw [if_neg hl]
      exact md_stop (by rw [len_lenF, len_lenF m]; omega)
def gcF : Nat → Nat → Nat → Nat
  | 0, p, _ => p
  | f + 1, p, q => if q = 0 then p else gcF f q (mdF 128 p q)
theorem gc_gcF (f p q : Nat) (hp : lenF p ≤ 128) (hq : lenF q < f) (hf : f ≤ 128) : gc p q = gcF f p q := by
  induction f generalizing p q with
  | zero => omega
  | succ f ih =>
    unfold gcF
    by_cases h : q = 0
    · subst h; rw [if_pos rfl, gc_zero]
    · rw [if_neg h, gc_step p h, md_mdF 128 p q h hp]
      have hlt := (md_spec p h).2
      rw [md_mdF 128 p q h hp, len_lenF, len_lenF] at hlt
      exact ih q _ (by omega) (by omega) (by omega)
/-- The test, step by step. -/
def prF (p : Nat) : Nat → Nat → Bool
  | 0, _ => true
  | k + 1, z => let z' := mdF 128 (clF 64 z z) p; (gcF 100 p (mdF 128 (z' ^^^ 2) p) == 1) && prF p k z'
theorem prF_ok (p k i : Nat) (hp : 2 < len p) (hp2 : len p ≤ 63) (h : prF p k (zi p i) = true) : ∀ j, i < j → j ≤ i + k → prOk p j = true := by
  have hp0 : p ≠ 0 := fun e => by rw [e, len_zero] at hp; omega
  induction k generalizing i with
  | zero => intro j h1 h2; omega
  | succ k ih =>
    have hz := zi_small p i hp0 hp
    have hz' := zi_small p (i + 1) hp0 hp
    have hzl : zi p i < 2 ^ 64 := lt_of_len (by omega)
    have hcl : len (cl (zi p i) (zi p i)) ≤ 126 := by
      by_cases h0 : zi p i = 0
      · rw [h0, cl_zero, len_zero]; omega
      · have := len_cl h0 h0; omega
    have e1 : mdF 128 (clF 64 (zi p i) (zi p i)) p = zi p (i + 1) := by
      rw [← cl_clF 64 _ _ hzl, ← md_mdF 128 _ p hp0 (by rw [← len_lenF]; omega)]; rfl
    have hx : len (zi p (i + 1) ^^^ 2) ≤ 64 := by
      have := len_xor_le (zi p (i + 1)) 2
      have h2 : len 2 = 2 := by rw [len_pos (by decide), len_pos (by decide), show 2 / 2 / 2 = 0 from rfl, len_zero]
      omega
    have e2 : mdF 128 (zi p (i + 1) ^^^ 2) p = md (zi p (i + 1) ^^^ 2) p := (md_mdF 128 _ p hp0 (by rw [← len_lenF]; omega)).symm
    have hlm := (md_spec (zi p (i + 1) ^^^ 2) hp0).2
    unfold prF at h
    simp only [e1, e2, Bool.and_eq_true] at h
    rw [← gc_gcF 100 p _ (by rw [← len_lenF]; omega) (by rw [← len_lenF]; omega) (by omega)] at h
    intro j h1 h2
    by_cases e : j = i + 1
    · subst e; exact h.1
    · exact ih (i + 1) h.2 j (by omega) (by omega)
theorem big_prime : prAll 0x3da3358b4dc173 26 = true := by
  have hl : len 0x3da3358b4dc173 = 54 := by rw [len_lenF]; decide +kernel
  refine prAll_of fun i h1 h2 => prF_ok 0x3da3358b4dc173 26 0 (by omega) (by omega) ?_ i (by omega) (by omega)
  decide +kernel
end Go.Proofs.Ytgjofpefglbjjaa.Gf
