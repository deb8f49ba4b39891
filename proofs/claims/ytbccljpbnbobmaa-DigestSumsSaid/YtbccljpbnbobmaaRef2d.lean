/- Turns bit by bit are the turned words. Conditions: none. -/
import Derived.Test.YtbccljpbnbobmaaRef2c
namespace Go.Proofs.Ytbccljpbnbobmaa
open Go.RowKit
set_option maxRecDepth 100000

theorem wbit_test (x i : Nat) : wbit x i = x.testBit (31 - i) := by
  unfold wbit
  rw [Nat.testBit_eq_decide_div_mod_eq]
  rw [Bool.eq_iff_iff]
  simp
theorem wbit_xor (x y i : Nat) : wbit (x ^^^ y) i = (wbit x i != wbit y i) := by
  rw [wbit_test, wbit_test, wbit_test, Nat.testBit_xor]
theorem wbit_rotr (x r i : Nat) (hx : x < 4294967296) (hr : 1 ≤ r ∧ r < 32) (hi : i < 32) : wbit (rotr x r) i = wbit x ((i + 32 - r) % 32) := by
  rw [wbit_test, wbit_test]
  unfold rotr
  rw [Nat.testBit_or]
  have h32 : (4294967296 : Nat) = 2 ^ 32 := by decide
  rw [h32, Nat.testBit_mod_two_pow, Nat.testBit_div_two_pow, Nat.mul_comm x, Nat.testBit_two_pow_mul]
  have hd : decide (31 - i < 32) = true := by rw [decide_eq_true_eq]; omega
  rw [hd, Bool.true_and]
  have hbig : ∀ n, 32 ≤ n → x.testBit n = false := fun n hn => Nat.testBit_lt_two_pow (Nat.lt_of_lt_of_le (by rw [← h32]; exact hx) (Nat.pow_le_pow_right (by decide) hn))
  by_cases h : r ≤ i
  · have e : (i + 32 - r) % 32 = i - r := by omega
    have e2 : 31 - (i - r) = 31 - i + r := by omega
    have e3 : decide (32 - r ≤ 31 - i) = false := by rw [decide_eq_false_iff_not]; omega
    rw [e, e2, e3, Bool.false_and, Bool.false_or]
  · have e : (i + 32 - r) % 32 = i + 32 - r := by omega
    have e2 : 31 - (i + 32 - r) = 31 - i - (32 - r) := by omega
    have e3 : decide (32 - r ≤ 31 - i) = true := by rw [decide_eq_true_eq]; omega
    rw [e, e2, e3, Bool.true_and]
    first
      | rw [hbig (31 - i + r) (by omega), Bool.or_false]
      | rw [hbig (r + (31 - i)) (by omega), Bool.or_false]
theorem wbit_shift (x c i : Nat) (hx : x < 4294967296) (hi : i < 32) : wbit (x / 2 ^ c) i = if c ≤ i then wbit x (i - c) else false := by
  rw [wbit_test, wbit_test, Nat.testBit_div_two_pow]
  have h32 : (4294967296 : Nat) = 2 ^ 32 := by decide
  by_cases h : c ≤ i
  · rw [if_pos h]
    have e : 31 - (i - c) = 31 - i + c := by omega
    rw [e]
  · rw [if_neg h]
    exact Nat.testBit_lt_two_pow (Nat.lt_of_lt_of_le (by rw [← h32]; exact hx) (Nat.pow_le_pow_right (by decide) (by omega)))
/-- The word that turns makes. -/
def turnN (x a b c : Nat) (sh : Bool) : Nat := rotr x a ^^^ rotr x b ^^^ (if sh then x / 2 ^ c else rotr x c)
theorem turnF_word (x a b c : Nat) (sh : Bool) (hx : x < 4294967296) (ha : 1 ≤ a ∧ a < 32) (hb : 1 ≤ b ∧ b < 32) (hc : 1 ≤ c ∧ c < 32) : fcells 32 (tval (turnF (wbit x) a b c sh)) = fcells 32 (tval (wbit (turnN x a b c sh))) := by
  refine fcells_congr _ _ _ fun i hi => ?_
  unfold tval turnF turnN
  rw [wbit_xor, wbit_xor, wbit_rotr x a i hx ha hi, wbit_rotr x b i hx hb hi]
  cases sh with
  | false =>
    simp only [Bool.not_false, Bool.true_or, if_true, Bool.false_eq_true, if_false]
    rw [wbit_rotr x c i hx hc hi]
  | true =>
    simp only [Bool.not_true, Bool.false_or, if_true]
    rw [wbit_shift x c i hx hi]
    by_cases h : c ≤ i
    · have e : (i + 32 - c) % 32 = i - c := by omega
      rw [if_pos h, e, if_pos (by rw [decide_eq_true_eq]; exact h)]
    · rw [if_neg h, if_neg (by rw [decide_eq_true_eq]; exact h)]
      cases (wbit x ((i + 32 - a) % 32) != wbit x ((i + 32 - b) % 32)) <;> rfl
end Go.Proofs.Ytbccljpbnbobmaa
