/- bits.Put. Conditions: none. -/
import Derived.Test.YtbccljpbnbobmaaBase
namespace Go.Proofs.Ytbccljpbnbobmaa
open Go.RowKit

/-- The lowest n bytes of x, the lowest first. -/
def putL (x : Nat) : Nat → List UInt8
  | 0 => []
  | n + 1 => putL x n ++ [UInt8.ofNat (x / 256 ^ n % 256)]

theorem putL_length (x n : Nat) : (putL x n).length = n := by
  induction n with
  | zero => rfl
  | succ n ih => simp [putL, ih]

theorem put_step (x n : Nat) : putL x (n + 1) = putL x n ++ [UInt8.ofNat (((x : Int) / 256 ^ n % 256)).toNat] := by
  have : (((x : Int) / 256 ^ n % 256)).toNat = x / 256 ^ n % 256 := by
    have h : (((x / 256 ^ n % 256 : Nat)) : Int) = ((x : Int) / 256 ^ n % 256) := by simp only [Int.natCast_emod, Int.natCast_ediv, Int.natCast_pow]; rfl
    rw [← h, Int.toNat_natCast]
  rw [this]; rfl

theorem div_pow_step (x : Int) (k : Nat) : x / 256 ^ k / 256 = x / 256 ^ (k + 1) := by
  rw [Int.pow_succ, Int.ediv_ediv_of_nonneg (Int.le_of_lt (Int.pow_pos (by decide)))]

theorem put_nat (x : Nat) (n : Nat) (_hx : x < 18446744073709551616) (hn : n ≤ 1000) (w : World) :
    Calls Try.prog 20 #[.int .u64 (x : Int), .int .i64 (n : Int)] w fun e w' => e = .returned (.string ⟨(putL x n).toArray⟩) ∧ Below w.heap.size w w' := by
  have hn0 : (0 : Int) ≤ (n : Int) := by omega
  go_enter Try.func20, Try.ntmps20
  go_wp2
  go_loopw [0, 5, 8] (fun y v i wr => ∃ k : Nat, k ≤ n ∧ i = .int .i64 k ∧ y = .int .u64 ((x : Int) / 256 ^ k) ∧ OwnB wr w.heap.size v (putL x k) ∧ Below w.heap.size w wr)
    (fun _ _ i _ => n - (intOf i).toNat)
  case atStart => exact ⟨0, Nat.zero_le _, rfl, by simp, OwnB.nil _ _, Below.refl _ _⟩
  case round =>
    obtain ⟨k, hk, rfl, rfl, hown, hb⟩ := hrel
    have hl := putL_length x k
    have hll : (putL x k).length < 140737488355328 := by omega
    clear hl
    have hbs := hb.size
    have hst := Lib.hid (put_step x k)
    by_cases hlt : k < n
    · go_wp2_with (at_builtin; go_must (refine wpList_append_byte _ rfl _ _ rfl w.heap.size _ (putL x k) _ hown rfl rfl rfl ?_ ?_ hll hbs ?_; omega; omega; intro v' w1 hown1 hb1))
      go_roundw
      case rel =>
        exact ⟨k + 1, by omega, by go_num, by rw [div_pow_step], by rw [hst.out]; exact hown1, hb.trans hb1⟩
      case measure => simp [intOf]; omega
    · have hs := run_string_own wr _ _ _ hown
      go_wp2_with fail
      go_ret
      obtain rfl : k = n := by omega
      exact ⟨rfl, hb⟩

theorem put_neg (x : Nat) (n : Int) (hn : n < 0) (w : World) :
    Calls Try.prog 20 #[.int .u64 (x : Int), .int .i64 n] w fun e w' => e = .returned (.string ⟨(putL x 0).toArray⟩) ∧ Below w.heap.size w w' := by
  go_enter Try.func20, Try.ntmps20
  go_wp2
  refine wp_loop_rounds 1 ?_
  rw [rounds_succ]
  have hs := run_string_nil w 0 0
  go_wp2
  go_ret
  exact ⟨rfl, Below.refl _ _⟩

theorem put_any (x : Nat) (n : Int) (hx : x < 18446744073709551616) (hn : n ≤ 1000) (w : World) :
    Calls Try.prog 20 #[.int .u64 (x : Int), .int .i64 n] w fun e w' => e = .returned (.string ⟨(putL x n.toNat).toArray⟩) ∧ Below w.heap.size w w' := by
  by_cases h : n < 0
  · have e : n.toNat = 0 := by omega
    rw [e]
    exact put_neg x n h w
  · obtain ⟨m, rfl⟩ := Int.eq_ofNat_of_zero_le (show 0 ≤ n by omega)
    rw [Int.toNat_natCast]
    exact put_nat x m hx (by omega) w
end Go.Proofs.Ytbccljpbnbobmaa
