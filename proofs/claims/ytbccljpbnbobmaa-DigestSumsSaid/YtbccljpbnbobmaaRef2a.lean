/- Sums bit by bit. Conditions: none. -/
import Derived.Test.YtbccljpbnbobmaaRef2
namespace Go.Proofs.Ytbccljpbnbobmaa
open Go.RowKit
set_option maxRecDepth 100000

/-- The carry into bit k. -/
def cyB (s x k : Nat) : Bool := decide (2 ^ k ≤ s % 2 ^ k + x % 2 ^ k)
theorem bit_mod (s k : Nat) : s % 2 ^ (k + 1) = s % 2 ^ k + 2 ^ k * (s / 2 ^ k % 2) := by rw [Nat.pow_succ, Nat.mod_mul]
theorem cyB_zero (s x : Nat) : cyB s x 0 = false := by
  unfold cyB
  rw [Nat.pow_zero, Nat.mod_one, Nat.mod_one]
  decide
theorem sum_parts (s x k : Nat) : (s + x) / 2 ^ k = s / 2 ^ k + x / 2 ^ k + (if cyB s x k then 1 else 0) := by
  unfold cyB
  have hp := Nat.two_pow_pos k
  rw [Nat.add_div hp]
  by_cases h : 2 ^ k ≤ s % 2 ^ k + x % 2 ^ k
  · simp [h]
  · simp [h]
theorem cyB_succ (s x k : Nat) : cyB s x (k + 1) = ((s / 2 ^ k % 2 == 1) && (x / 2 ^ k % 2 == 1) || (s / 2 ^ k % 2 == 1) && cyB s x k || (x / 2 ^ k % 2 == 1) && cyB s x k) := by
  have e : cyB s x (k + 1) = decide (2 ^ k * 2 ≤ s % 2 ^ k + 2 ^ k * (s / 2 ^ k % 2) + (x % 2 ^ k + 2 ^ k * (x / 2 ^ k % 2))) := by
    unfold cyB
    rw [bit_mod, bit_mod, Nat.pow_succ]
  have hp := Nat.two_pow_pos k
  have h1 := Nat.mod_lt s hp
  have h2 := Nat.mod_lt x hp
  rw [e]
  unfold cyB
  generalize 2 ^ k = p at *
  rcases Nat.mod_two_eq_zero_or_one (s / p) with ha | ha <;> rcases Nat.mod_two_eq_zero_or_one (x / p) with hb | hb <;> rw [ha, hb] <;> by_cases hc : p ≤ s % p + x % p <;> simp [hc] <;> omega
theorem bit_sum (s x k : Nat) : ((s + x) / 2 ^ k % 2 == 1) = (((s / 2 ^ k % 2 == 1) != (x / 2 ^ k % 2 == 1)) != cyB s x k) := by
  rw [sum_parts]
  rcases Nat.mod_two_eq_zero_or_one (s / 2 ^ k) with ha | ha <;> rcases Nat.mod_two_eq_zero_or_one (x / 2 ^ k) with hb | hb <;> rw [ha, hb] <;> cases cyB s x k <;> simp <;> omega
/-- What stands in the sum when k bits have been added. -/
def addBits (s x k : Nat) (j : Nat) : Bool := if 32 ≤ j + k then wbit (s + x) j else wbit s j
theorem addBits_zero (s x : Nat) : fcells 32 (tval (wbit s)) = fcells 32 (tval (addBits s x 0)) := by
  refine fcells_congr _ _ _ fun i hi => ?_
  unfold tval addBits
  rw [if_neg (by omega)]
theorem addBits_all (s x : Nat) : fcells 32 (tval (addBits s x 32)) = fcells 32 (tval (wbit ((s + x) % 4294967296))) := by
  refine fcells_congr _ _ _ fun i hi => ?_
  unfold tval addBits
  rw [if_pos (by omega)]
  unfold wbit
  have e : (s + x) % 4294967296 / 2 ^ (31 - i) % 2 = (s + x) / 2 ^ (31 - i) % 2 := by
    have h : (4294967296 : Nat) = 2 ^ (31 - i) * 2 * 2 ^ i := by
      rw [Nat.mul_assoc, Nat.mul_comm 2 (2 ^ i), ← Nat.pow_succ, ← Nat.pow_add]
      have e : 31 - i + (i + 1) = 32 := by omega
      rw [e]
    rw [h, Nat.mul_assoc, Nat.mod_mul_right_div_self, Nat.mod_mul_right_mod]
  rw [e]
theorem addBits_succ (s x k : Nat) (hk : k < 32) (c : Bool) (hc : c = cyB s x k) : fcells 32 (tval fun i => if i = 31 - k then ((wbit s (31 - k) != wbit x (31 - k)) != c) else addBits s x k i) = fcells 32 (tval (addBits s x (k + 1))) := by
  refine fcells_congr _ _ _ fun i hi => ?_
  unfold tval addBits
  by_cases h : i = 31 - k
  · simp only [h, if_true]
    rw [if_pos (by omega)]
    unfold wbit
    have e2 : 31 - (31 - k) = k := by omega
    rw [e2, hc, bit_sum]
  · simp only [h, if_false]
    by_cases h2 : 32 ≤ i + k
    · rw [if_pos h2, if_pos (by omega)]
    · rw [if_neg h2, if_neg (by omega)]
end Go.Proofs.Ytbccljpbnbobmaa
