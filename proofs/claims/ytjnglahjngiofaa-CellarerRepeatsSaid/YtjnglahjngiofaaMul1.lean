/- math/bits.Mul of one and a small number. Conditions: none. -/
import Derived.Test.YtjnglahjngiofaaSource
namespace Go.Proofs.Ytjnglahjngiofaa
open Go.RowKit
set_option maxRecDepth 100000

theorem mul64_one (c : Nat) (hc : c < 4294967296) (w : World) : Calls Try.prog 90 #[.int .u64 1, .int .u64 (c : Int)] w fun e w' => e = .returned (.tuple #[.int .u64 0, .int .u64 (c : Int)]) ∧ w = w' := by
  have h1 : bits .and .u64 (c : Int) 4294967295 = (c : Int) := by
    have h := mask64 c 32 (by omega) (by decide)
    rw [show ((2 : Int) ^ 32 - 1) = 4294967295 by decide] at h
    rw [h, Nat.mod_eq_of_lt (by omega)]
  have h2 : bits .and .u64 1 4294967295 = 1 := by decide
  have h3 : (c : Int) / 4294967296 = 0 := by omega
  have h4 : (c : Int) % 18446744073709551616 = (c : Int) := by omega
  have hw : IntKind.u64.wrap (c : Int) = (c : Int) := by rw [IntKind.wrap_u64]; omega
  go_enter Try.func90, Try.ntmps90
  go_wp2_with fail
  go_ret2
  exact ⟨rfl, rfl⟩
end Go.Proofs.Ytjnglahjngiofaa
