/- Turned bits of two parts. Plain. Conditions: none. -/
import Derived.Test.YtahgeeklenojjaaBitP
namespace Go.Proofs.Ytahgeeklenojjaa

theorem rev_add (x a b : Nat) : rev x (a + b) = rev x a * 2 ^ b + rev (x / 2 ^ a) b := by
  induction b with
  | zero => simp [rev]
  | succ b ih =>
    rw [← Nat.add_assoc]
    simp only [rev, ih]
    rw [Nat.div_div_eq_div_mul, ← Nat.pow_add, Nat.pow_succ, ← Nat.mul_assoc, Nat.mul_add]
    omega
end Go.Proofs.Ytahgeeklenojjaa
