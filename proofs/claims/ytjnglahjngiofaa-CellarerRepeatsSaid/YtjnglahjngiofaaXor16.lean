/- Two numbers of 16 bits that are each other's turn. Plain. Conditions: none. -/
import Derived.WalkKit
import Derived.Laws.BitsAllLaws
namespace Go.Proofs.Ytjnglahjngiofaa
open Go.RowKit

theorem xor16_of (b : Nat) (hb : b < 65536) : 65535 ^^^ b = 65535 - b := by
  apply Nat.eq_of_testBit_eq
  intro i
  rw [Nat.testBit_xor, show (65535 : Nat) - b = 2 ^ 16 - (b + 1) by omega, Nat.testBit_two_pow_sub_succ (by omega), show (65535 : Nat) = 2 ^ 16 - 1 by decide, Nat.testBit_two_pow_sub_one]
  by_cases h : i < 16
  · simp [h]
  · have : b.testBit i = false := Nat.testBit_lt_two_pow (Nat.lt_of_lt_of_le hb (by rw [show (65536 : Nat) = 2 ^ 16 by decide]; exact Nat.pow_le_pow_right (by decide) (by omega)))
    simp [h, this]
theorem xor16 (a b : Nat) (_ha : a < 65536) (hb : b < 65536) : a ^^^ b = 65535 ↔ a + b = 65535 := by
  constructor
  · intro h
    have e : a = 65535 ^^^ b := by rw [← h, Nat.xor_assoc, Nat.xor_self, Nat.xor_zero]
    rw [xor16_of b hb] at e
    omega
  · intro h
    have e : a = 65535 - b := by omega
    rw [e, ← xor16_of b hb, Nat.xor_assoc, Nat.xor_self, Nat.xor_zero]
theorem i64_xor16 (a b : Nat) (ha : a < 65536) (hb : b < 65536) : bits .xor .i64 (a : Int) (b : Int) = ((a ^^^ b : Nat) : Int) := by
  have h := Nat.xor_lt_two_pow (n := 16) (x := a) (y := b) (by simpa using ha) (by simpa using hb)
  have h2 : (2 : Nat) ^ 16 = 65536 := by decide
  show IntKind.i64.wrap ((BitVec.ofInt 64 (a : Int) ^^^ BitVec.ofInt 64 (b : Int)).toNat : Int) = _
  rw [BitVec.toNat_xor, ofInt_u64 a (by omega), ofInt_u64 b (by omega), IntKind.wrap_i64]
  omega
end Go.Proofs.Ytjnglahjngiofaa
