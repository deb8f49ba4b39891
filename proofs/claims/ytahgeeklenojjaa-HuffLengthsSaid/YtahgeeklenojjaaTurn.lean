/- bitio.turn. Conditions: none. -/
import Derived.Test.YtahgeeklenojjaaBase
import Derived.Test.YtahgeeklenojjaaBitP
namespace Go.Proofs.Ytahgeeklenojjaa
open Go.RowKit
set_option maxRecDepth 100000

theorem turn_step (x n k : Nat) (hx : x < 4294967296) (hn : n ≤ 32) (h : k < n) :
    bits .or .u32 ((rev x k : Int) * 2 ^ (n - k)) (bits .and .u32 ((x : Int) / 2 ^ k) 1 * 2 ^ (n - 1 - k) % 4294967296) = ((rev x (k + 1) * 2 ^ (n - (k + 1)) : Nat) : Int) := by
  have e1 : ((x : Int) / 2 ^ k) = ((x / 2 ^ k : Nat) : Int) := by simp
  have hlt : x / 2 ^ k < 4294967296 := Nat.lt_of_le_of_lt (Nat.div_le_self _ _) hx
  have e2 : bits .and .u32 ((x / 2 ^ k : Nat) : Int) 1 = ((x / 2 ^ k % 2 : Nat) : Int) := by
    have := u32_and_nat (x / 2 ^ k) 1 hlt (by decide)
    rw [Nat.and_one_is_mod] at this
    exact this
  rw [e1, e2]
  have hb : x / 2 ^ k % 2 < 2 := Nat.mod_lt _ (by decide)
  obtain ⟨b, hb0⟩ : ∃ b, x / 2 ^ k % 2 = b := ⟨_, rfl⟩
  rw [hb0] at hb ⊢
  have hp : 2 ^ (n - 1 - k) ≤ 2 ^ 31 := Nat.pow_le_pow_right (by decide) (by omega)
  have hp2 : (2 : Nat) ^ 31 = 2147483648 := by decide
  have hb2 : b * 2 ^ (n - 1 - k) ≤ 2 ^ (n - 1 - k) := by
    have := Nat.mul_le_mul_right (2 ^ (n - 1 - k)) (show b ≤ 1 by omega)
    omega
  have e3 : ((b : Int) * 2 ^ (n - 1 - k) % 4294967296) = ((b * 2 ^ (n - 1 - k) : Nat) : Int) := by
    have : ((b : Int) * 2 ^ (n - 1 - k)) = ((b * 2 ^ (n - 1 - k) : Nat) : Int) := by simp
    rw [this]
    omega
  have e4 : ((rev x k : Int) * 2 ^ (n - k)) = ((rev x k * 2 ^ (n - k) : Nat) : Int) := by simp
  have hr := rev_lt x k
  have h5 : rev x k * 2 ^ (n - k) + 2 ^ (n - k) ≤ 2 ^ n := by
    have := Nat.mul_le_mul_right (2 ^ (n - k)) (show rev x k + 1 ≤ 2 ^ k from hr)
    rw [← Nat.pow_add, Nat.add_mul, Nat.one_mul, show k + (n - k) = n by omega] at this
    exact this
  have h6 : 2 ^ n ≤ 2 ^ 32 := Nat.pow_le_pow_right (by decide) hn
  have h7 : (2 : Nat) ^ 32 = 4294967296 := by decide
  have h8 : 2 ^ (n - k) = 2 * 2 ^ (n - 1 - k) := by rw [← Nat.pow_succ']; congr 1; omega
  have hpp := pow_pos2 (n - 1 - k)
  rw [e3, e4, u32_or_nat _ _ (by omega) (by omega), Nat.or_comm, or_add _ _ _ (by omega)]
  congr 1
  rw [show n - (k + 1) = n - 1 - k by omega, h8]
  simp only [rev, hb0]
  rw [Nat.add_mul, Nat.mul_left_comm, ← Nat.mul_assoc, Nat.add_comm]

theorem turn_any (x n : Nat) (hx : x < 4294967296) (hn : n ≤ 32) (w : World) :
    Calls Try.prog 27 #[.int .u32 (x : Int), .int .i64 (n : Int)] w fun e w' => e = .returned (.int .u32 (rev x n : Int)) ∧ w' = w := by
  go_enter Try.func27, Try.ntmps27
  go_wp2
  go_loop [5, 6, 8] (fun y _ i => ∃ k : Nat, k ≤ n ∧ i = .int .i64 (k : Int) ∧ y = .int .u32 (rev x k * 2 ^ (n - k) : Nat))
    (fun _ _ i => n - (intOf i).toNat)
  case atStart => exact ⟨0, by omega, rfl, by simp [rev]⟩
  case round =>
    obtain ⟨k, hk, rfl, rfl⟩ := hrel
    by_cases hlt : k < n
    · have hst := turn_step x n k hx hn hlt
      go_wp2
      go_round
      case rel => exact ⟨k + 1, by omega, by go_num, rfl⟩
      case measure => simp [intOf]; omega
    · obtain rfl : k = n := by omega
      go_wp2
      go_ret
      exact ⟨by simp, rfl⟩
end Go.Proofs.Ytahgeeklenojjaa
