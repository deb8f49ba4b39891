/- math/bits: Mul64 (as the shelf's own proof goes), RotateLeft32. Conditions: none. -/
import Derived.Test.YtbccljpbnbobmaaBase
import Derived.WalkKit
import Derived.Lib.Mul64
import Derived.Laws.Bits64b
namespace Go.Proofs.Ytbccljpbnbobmaa
open Go.RowKit Go.Lib
set_option maxRecDepth 100000

theorem m64_mask (a : Nat) (ha : a < 18446744073709551616) : bits .and .u64 (a : Int) 4294967295 = ((a % 4294967296 : Nat) : Int) := by
  have h := bits_and_u64_nat a 4294967295 ha (by omega)
  have e : a &&& 4294967295 = a % 4294967296 := Nat.and_two_pow_sub_one_eq_mod a 32
  rw [e] at h
  exact h
theorem m64_div (a : Nat) : (a : Int) / 4294967296 = ((a / 4294967296 : Nat) : Int) := by omega
theorem m64_mul (a b : Nat) : (a : Int) * (b : Int) = ((a * b : Nat) : Int) := (Int.natCast_mul a b).symm
theorem m64_add (a b : Nat) : (a : Int) + (b : Int) = ((a + b : Nat) : Int) := (Int.natCast_add a b).symm
theorem m64_wrap (a : Nat) (ha : a < 18446744073709551616) : IntKind.u64.wrap (a : Int) = (a : Int) := by rw [IntKind.wrap_u64]; omega
theorem m64_wrapM (a : Nat) : IntKind.u64.wrap (a : Int) = ((a % 18446744073709551616 : Nat) : Int) := by rw [IntKind.wrap_u64]; omega

set_option maxHeartbeats 2000000 in
theorem mul64_any (x y : Nat) (hx : x < 18446744073709551616) (hy : y < 18446744073709551616) (w : World) :
    Calls Try.prog 52 #[.int .u64 x, .int .u64 y] w fun e w' => e = .returned (.tuple #[.int .u64 ((x * y / 18446744073709551616 : Nat) : Int), .int .u64 ((x * y % 18446744073709551616 : Nat) : Int)]) ∧ w = w' := by
  obtain ⟨bd, bt, bw, hhi⟩ := Lib.mul64_hi x y hx hy
  have ba := Lib.half_mul_le (a := x / 4294967296) (b := y / 4294967296) (by omega) (by omega)
  have bb := Lib.half_mul_le (a := x / 4294967296) (b := y % 4294967296) (by omega) (by omega)
  have bc := Lib.half_mul_le (a := x % 4294967296) (b := y / 4294967296) (by omega) (by omega)
  have ba' : x / 4294967296 * (y / 4294967296) < 18446744073709551616 := by omega
  have bb' : x / 4294967296 * (y % 4294967296) < 18446744073709551616 := by omega
  have bc' : x % 4294967296 * (y / 4294967296) < 18446744073709551616 := by omega
  have bh1 : x / 4294967296 * (y / 4294967296) + (x / 4294967296 * (y % 4294967296) + x % 4294967296 * (y % 4294967296) / 4294967296) / 4294967296 < 18446744073709551616 := by omega
  have bh : x / 4294967296 * (y / 4294967296) + (x / 4294967296 * (y % 4294967296) + x % 4294967296 * (y % 4294967296) / 4294967296) / 4294967296 + ((x / 4294967296 * (y % 4294967296) + x % 4294967296 * (y % 4294967296) / 4294967296) % 4294967296 + x % 4294967296 * (y / 4294967296)) / 4294967296 < 18446744073709551616 := by omega
  go_enter Try.func52, Try.ntmps52
  go_wp2
  simp only [m64_mask x hx, m64_mask y hy, m64_div, m64_mul, m64_add, m64_wrap _ bd, m64_wrap _ bb', m64_wrap _ bt, m64_mask _ bt, m64_wrap _ bc', m64_wrap _ bw, m64_wrap _ ba', m64_wrap _ bh1, m64_wrap _ bh, m64_wrapM (x * y)]
  rw [hhi]
  go_ret2
  exact ⟨rfl, rfl⟩

/-- A word turned to the right. -/
def rotr (x r : Nat) : Nat := x * 2 ^ (32 - r) % 4294967296 ||| x / 2 ^ r
theorem rotr_lt (x r : Nat) (hx : x < 4294967296) : rotr x r < 4294967296 := by
  unfold rotr
  refine Nat.or_lt_two_pow (n := 32) (Nat.mod_lt _ (by decide)) (Nat.lt_of_le_of_lt (Nat.div_le_self _ _) hx)
theorem rot_2 (x : Nat) (hx : x < 4294967296) (w : World) : Calls Try.prog 53 #[.int .u32 (x : Int), .int .i64 (-2)] w fun e w' => e = .returned (.int .u32 (rotr x 2 : Int)) ∧ w = w' := by
  have ho := u32_or_nat (x * 1073741824 % 4294967296) (x / 4) (Nat.mod_lt _ (by decide)) (Nat.lt_of_le_of_lt (Nat.div_le_self _ _) hx)
  have hr : x * 1073741824 % 4294967296 ||| x / 4 = rotr x 2 := rfl
  rw [hr] at ho
  generalize rotr x 2 = R at *
  clear hr
  have hk : bits BinOp.and IntKind.u64 (IntKind.u64.wrap (-2)) 31 = 30 := by decide
  go_enter Try.func53, Try.ntmps53
  go_wp2_with fail
  go_ret
  refine ⟨congrArg (fun z => Ending.returned (Value.int .u32 z)) ?_, rfl⟩
  rw [← ho]
  congr 1 <;> omega
theorem rot_6 (x : Nat) (hx : x < 4294967296) (w : World) : Calls Try.prog 53 #[.int .u32 (x : Int), .int .i64 (-6)] w fun e w' => e = .returned (.int .u32 (rotr x 6 : Int)) ∧ w = w' := by
  have ho := u32_or_nat (x * 67108864 % 4294967296) (x / 64) (Nat.mod_lt _ (by decide)) (Nat.lt_of_le_of_lt (Nat.div_le_self _ _) hx)
  have hr : x * 67108864 % 4294967296 ||| x / 64 = rotr x 6 := rfl
  rw [hr] at ho
  generalize rotr x 6 = R at *
  clear hr
  have hk : bits BinOp.and IntKind.u64 (IntKind.u64.wrap (-6)) 31 = 26 := by decide
  go_enter Try.func53, Try.ntmps53
  go_wp2_with fail
  go_ret
  refine ⟨congrArg (fun z => Ending.returned (Value.int .u32 z)) ?_, rfl⟩
  rw [← ho]
  congr 1 <;> omega
theorem rot_7 (x : Nat) (hx : x < 4294967296) (w : World) : Calls Try.prog 53 #[.int .u32 (x : Int), .int .i64 (-7)] w fun e w' => e = .returned (.int .u32 (rotr x 7 : Int)) ∧ w = w' := by
  have ho := u32_or_nat (x * 33554432 % 4294967296) (x / 128) (Nat.mod_lt _ (by decide)) (Nat.lt_of_le_of_lt (Nat.div_le_self _ _) hx)
  have hr : x * 33554432 % 4294967296 ||| x / 128 = rotr x 7 := rfl
  rw [hr] at ho
  generalize rotr x 7 = R at *
  clear hr
  have hk : bits BinOp.and IntKind.u64 (IntKind.u64.wrap (-7)) 31 = 25 := by decide
  go_enter Try.func53, Try.ntmps53
  go_wp2_with fail
  go_ret
  refine ⟨congrArg (fun z => Ending.returned (Value.int .u32 z)) ?_, rfl⟩
  rw [← ho]
  congr 1 <;> omega
theorem rot_11 (x : Nat) (hx : x < 4294967296) (w : World) : Calls Try.prog 53 #[.int .u32 (x : Int), .int .i64 (-11)] w fun e w' => e = .returned (.int .u32 (rotr x 11 : Int)) ∧ w = w' := by
  have ho := u32_or_nat (x * 2097152 % 4294967296) (x / 2048) (Nat.mod_lt _ (by decide)) (Nat.lt_of_le_of_lt (Nat.div_le_self _ _) hx)
  have hr : x * 2097152 % 4294967296 ||| x / 2048 = rotr x 11 := rfl
  rw [hr] at ho
  generalize rotr x 11 = R at *
  clear hr
  have hk : bits BinOp.and IntKind.u64 (IntKind.u64.wrap (-11)) 31 = 21 := by decide
  go_enter Try.func53, Try.ntmps53
  go_wp2_with fail
  go_ret
  refine ⟨congrArg (fun z => Ending.returned (Value.int .u32 z)) ?_, rfl⟩
  rw [← ho]
  congr 1 <;> omega
theorem rot_13 (x : Nat) (hx : x < 4294967296) (w : World) : Calls Try.prog 53 #[.int .u32 (x : Int), .int .i64 (-13)] w fun e w' => e = .returned (.int .u32 (rotr x 13 : Int)) ∧ w = w' := by
  have ho := u32_or_nat (x * 524288 % 4294967296) (x / 8192) (Nat.mod_lt _ (by decide)) (Nat.lt_of_le_of_lt (Nat.div_le_self _ _) hx)
  have hr : x * 524288 % 4294967296 ||| x / 8192 = rotr x 13 := rfl
  rw [hr] at ho
  generalize rotr x 13 = R at *
  clear hr
  have hk : bits BinOp.and IntKind.u64 (IntKind.u64.wrap (-13)) 31 = 19 := by decide
  go_enter Try.func53, Try.ntmps53
  go_wp2_with fail
  go_ret
  refine ⟨congrArg (fun z => Ending.returned (Value.int .u32 z)) ?_, rfl⟩
  rw [← ho]
  congr 1 <;> omega
theorem rot_17 (x : Nat) (hx : x < 4294967296) (w : World) : Calls Try.prog 53 #[.int .u32 (x : Int), .int .i64 (-17)] w fun e w' => e = .returned (.int .u32 (rotr x 17 : Int)) ∧ w = w' := by
  have ho := u32_or_nat (x * 32768 % 4294967296) (x / 131072) (Nat.mod_lt _ (by decide)) (Nat.lt_of_le_of_lt (Nat.div_le_self _ _) hx)
  have hr : x * 32768 % 4294967296 ||| x / 131072 = rotr x 17 := rfl
  rw [hr] at ho
  generalize rotr x 17 = R at *
  clear hr
  have hk : bits BinOp.and IntKind.u64 (IntKind.u64.wrap (-17)) 31 = 15 := by decide
  go_enter Try.func53, Try.ntmps53
  go_wp2_with fail
  go_ret
  refine ⟨congrArg (fun z => Ending.returned (Value.int .u32 z)) ?_, rfl⟩
  rw [← ho]
  congr 1 <;> omega
theorem rot_18 (x : Nat) (hx : x < 4294967296) (w : World) : Calls Try.prog 53 #[.int .u32 (x : Int), .int .i64 (-18)] w fun e w' => e = .returned (.int .u32 (rotr x 18 : Int)) ∧ w = w' := by
  have ho := u32_or_nat (x * 16384 % 4294967296) (x / 262144) (Nat.mod_lt _ (by decide)) (Nat.lt_of_le_of_lt (Nat.div_le_self _ _) hx)
  have hr : x * 16384 % 4294967296 ||| x / 262144 = rotr x 18 := rfl
  rw [hr] at ho
  generalize rotr x 18 = R at *
  clear hr
  have hk : bits BinOp.and IntKind.u64 (IntKind.u64.wrap (-18)) 31 = 14 := by decide
  go_enter Try.func53, Try.ntmps53
  go_wp2_with fail
  go_ret
  refine ⟨congrArg (fun z => Ending.returned (Value.int .u32 z)) ?_, rfl⟩
  rw [← ho]
  congr 1 <;> omega
theorem rot_19 (x : Nat) (hx : x < 4294967296) (w : World) : Calls Try.prog 53 #[.int .u32 (x : Int), .int .i64 (-19)] w fun e w' => e = .returned (.int .u32 (rotr x 19 : Int)) ∧ w = w' := by
  have ho := u32_or_nat (x * 8192 % 4294967296) (x / 524288) (Nat.mod_lt _ (by decide)) (Nat.lt_of_le_of_lt (Nat.div_le_self _ _) hx)
  have hr : x * 8192 % 4294967296 ||| x / 524288 = rotr x 19 := rfl
  rw [hr] at ho
  generalize rotr x 19 = R at *
  clear hr
  have hk : bits BinOp.and IntKind.u64 (IntKind.u64.wrap (-19)) 31 = 13 := by decide
  go_enter Try.func53, Try.ntmps53
  go_wp2_with fail
  go_ret
  refine ⟨congrArg (fun z => Ending.returned (Value.int .u32 z)) ?_, rfl⟩
  rw [← ho]
  congr 1 <;> omega
theorem rot_22 (x : Nat) (hx : x < 4294967296) (w : World) : Calls Try.prog 53 #[.int .u32 (x : Int), .int .i64 (-22)] w fun e w' => e = .returned (.int .u32 (rotr x 22 : Int)) ∧ w = w' := by
  have ho := u32_or_nat (x * 1024 % 4294967296) (x / 4194304) (Nat.mod_lt _ (by decide)) (Nat.lt_of_le_of_lt (Nat.div_le_self _ _) hx)
  have hr : x * 1024 % 4294967296 ||| x / 4194304 = rotr x 22 := rfl
  rw [hr] at ho
  generalize rotr x 22 = R at *
  clear hr
  have hk : bits BinOp.and IntKind.u64 (IntKind.u64.wrap (-22)) 31 = 10 := by decide
  go_enter Try.func53, Try.ntmps53
  go_wp2_with fail
  go_ret
  refine ⟨congrArg (fun z => Ending.returned (Value.int .u32 z)) ?_, rfl⟩
  rw [← ho]
  congr 1 <;> omega
theorem rot_25 (x : Nat) (hx : x < 4294967296) (w : World) : Calls Try.prog 53 #[.int .u32 (x : Int), .int .i64 (-25)] w fun e w' => e = .returned (.int .u32 (rotr x 25 : Int)) ∧ w = w' := by
  have ho := u32_or_nat (x * 128 % 4294967296) (x / 33554432) (Nat.mod_lt _ (by decide)) (Nat.lt_of_le_of_lt (Nat.div_le_self _ _) hx)
  have hr : x * 128 % 4294967296 ||| x / 33554432 = rotr x 25 := rfl
  rw [hr] at ho
  generalize rotr x 25 = R at *
  clear hr
  have hk : bits BinOp.and IntKind.u64 (IntKind.u64.wrap (-25)) 31 = 7 := by decide
  go_enter Try.func53, Try.ntmps53
  go_wp2_with fail
  go_ret
  refine ⟨congrArg (fun z => Ending.returned (Value.int .u32 z)) ?_, rfl⟩
  rw [← ho]
  congr 1 <;> omega
end Go.Proofs.Ytbccljpbnbobmaa
