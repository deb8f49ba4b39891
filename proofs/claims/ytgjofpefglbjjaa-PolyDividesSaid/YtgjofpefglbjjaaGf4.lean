/- Polynomials over two elements: those of a degree of at most 14 that are prime pass the test. Conditions: none. -/
import Derived.Test.YtgjofpefglbjjaaGf3
namespace Go.Proofs.Ytgjofpefglbjjaa.Gf

theorem irr_gc2 {f a : Nat} (hf : Irr f) : gc f a = 1 ∨ gc f a = f := by
  obtain ⟨k, hk⟩ := (gc_dvd f a).1
  rcases hf.2 k (gc f a) hk.symm with h | h
  · right
    rcases len_one h with e | e
    · rw [e, zero_cl] at hk; exact absurd hk hf.ne
    · rw [e, one_cl] at hk; exact hk.symm
  · left
    rcases len_one h with e | e
    · rw [e, cl_zero] at hk; exact absurd hk hf.ne
    · exact e
/-- The product, fit for the kernel. -/
def prodC : List Nat → Option Nat
  | [] => some 1
  | x :: l => match prodC l with
    | some r => if r < 2 ^ 130 then some (clF 130 x r) else none
    | none => none
theorem prod_prodC (l : List Nat) (r : Nat) (h : prodC l = some r) : prod l = r := by
  induction l generalizing r with
  | nil => simpa [prodC, prod] using h
  | cons x l ih =>
    unfold prodC at h
    cases hc : prodC l with
    | none => rw [hc] at h; cases h
    | some s =>
      rw [hc] at h
      simp only at h
      by_cases hs : s < 2 ^ 130
      · rw [if_pos hs] at h
        injection h with h
        show cl x (prod l) = r
        rw [ih s hc, cl_clF 130 x s hs, h]
      · rw [if_neg hs] at h; cases h
/-- The prime ones whose degrees divide i, for i up to 7. -/
def facts : Nat → List Nat
  | 1 => [2, 3]
  | 2 => [2, 3, 7]
  | 3 => [2, 3, 11, 13]
  | 4 => [2, 3, 7, 19, 25, 31]
  | 5 => [2, 3, 37, 41, 47, 55, 59, 61]
  | 6 => [2, 3, 7, 11, 13, 67, 73, 87, 91, 97, 103, 109, 115, 117]
  | 7 => [2, 3, 131, 137, 143, 145, 157, 167, 171, 185, 191, 193, 203, 211, 213, 229, 239, 241, 247, 253]
  | _ => []
theorem facts_prod (i : Nat) (h1 : 1 ≤ i) (h7 : i ≤ 7) : prod (facts i) = 2 ^ 2 ^ i ^^^ 2 := by
  rcases show i = 1 ∨ i = 2 ∨ i = 3 ∨ i = 4 ∨ i = 5 ∨ i = 6 ∨ i = 7 by omega with rfl | rfl | rfl | rfl | rfl | rfl | rfl
  all_goals exact prod_prodC _ _ (by decide +kernel)
theorem facts_small (i : Nat) (h1 : 1 ≤ i) (h7 : i ≤ 7) : ∀ f ∈ facts i, 0 < f ∧ f < 2 ^ (i + 1) := by
  rcases show i = 1 ∨ i = 2 ∨ i = 3 ∨ i = 4 ∨ i = 5 ∨ i = 6 ∨ i = 7 by omega with rfl | rfl | rfl | rfl | rfl | rfl | rfl
  all_goals decide +kernel
theorem dvd_prod {f : Nat} (hf : Irr f) (l : List Nat) (h : Dvd f (prod l)) : ∃ x ∈ l, Dvd f x := by
  apply Classical.byContradiction
  intro hno
  exact prod_ne f hf l (fun x hx hd => hno ⟨x, hx, hd⟩) h
/-- What is prime, of a degree of at most 14, passes the test. -/
theorem irr_test (m : Nat) (hm : Irr m) (h15 : len m ≤ 15) : prAll m ((len m - 1) / 2) = true := by
  have hm0 := hm.ne
  refine prAll_of fun i h1 h2 => ?_
  unfold prOk
  rw [beq_iff_eq]
  rcases irr_gc2 (a := md (zi m i ^^^ 2) m) hm with e | e
  · exact e
  · exfalso
    have h3 := (gc_dvd m (md (zi m i ^^^ 2) m)).2
    rw [e, dvd_md hm0 (Dvd.refl m)] at h3
    obtain ⟨k, hk⟩ := zi_eqm m i hm0
    have h4 : Dvd m (2 ^ 2 ^ i ^^^ 2) := by
      have h5 : 2 ^ 2 ^ i ^^^ 2 = cl k m ^^^ (zi m i ^^^ 2) := by
        rw [← hk, Nat.xor_comm (zi m i), Nat.xor_assoc, ← Nat.xor_assoc (zi m i), Nat.xor_self, Nat.zero_xor]
      rw [h5]
      exact Dvd.xor ⟨k, rfl⟩ h3
    rw [← facts_prod i h1 (by omega)] at h4
    obtain ⟨f, hf, hd⟩ := dvd_prod hm _ h4
    have hs := facts_small i h1 (by omega) f hf
    have h6 := dvd_len hd (by omega)
    have h7 := len_le hs.2
    omega
/-- What no small one divides is prime. -/
theorem irr_of_none (p D : Nat) (hp : 2 ≤ len p) (hD : len p - 1 < 2 * (len D - 1)) (h : ∀ d, 2 ≤ d → d < D → ¬ Dvd d p) : Irr p := by
  refine ⟨hp, fun a b e => ?_⟩
  apply Classical.byContradiction
  intro hno
  have h1 : 2 ≤ len a := by omega
  have h2 : 2 ≤ len b := by omega
  have ha : a ≠ 0 := fun e => by rw [e, len_zero] at h1; omega
  have hb : b ≠ 0 := fun e => by rw [e, len_zero] at h2; omega
  have hl := len_cl ha hb
  rw [e] at hl
  have hsm : ∃ d, 2 ≤ len d ∧ len d < len D ∧ Dvd d p := by
    rcases Nat.le_total (len a) (len b) with h3 | h3
    · exact ⟨a, h1, by omega, b, by rw [cl_comm, e]⟩
    · exact ⟨b, h2, by omega, a, e.symm⟩
  obtain ⟨d, hd1, hd2, hd3⟩ := hsm
  have hd0 : d ≠ 0 := fun e => by rw [e, len_zero] at hd1; omega
  refine h d ?_ ?_ hd3
  · have := len_ge hd0
    have : 2 ^ 1 ≤ 2 ^ (len d - 1) := Nat.pow_le_pow_right (by decide) (by omega)
    omega
  · rcases Nat.lt_or_ge d D with h5 | h5
    · exact h5
    · have h6 := len_lt d
      have : D < 2 ^ len d := by omega
      have := len_le this
      omega
/-- A divisor that is neither 1 nor all of p. -/
theorem not_irr {p d : Nat} (hd : Dvd d p) (h2 : 2 ≤ d) (hl : 2 * (len d - 1) ≤ len p - 1) (hp : 2 ≤ len p) : ¬ Irr p := by
  intro hi
  obtain ⟨k, hk⟩ := hd
  have h1 : 2 ≤ len d := by
    rcases Nat.lt_or_ge (len d) 2 with h | h
    · rcases len_one (show len d ≤ 1 by omega) with e | e <;> omega
    · exact h
  have hd0 : d ≠ 0 := by omega
  have hk0 : k ≠ 0 := fun e => by rw [e, zero_cl] at hk; exact hi.ne hk
  have hlk := len_cl hk0 hd0
  rw [← hk] at hlk
  rcases hi.2 k d hk.symm with h | h <;> omega
end Go.Proofs.Ytgjofpefglbjjaa.Gf
