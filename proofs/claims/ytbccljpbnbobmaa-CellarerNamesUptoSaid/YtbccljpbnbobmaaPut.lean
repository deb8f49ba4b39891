/- bits.Put: a number in n bytes. Conditions: at most 1000 bytes. -/
import Derived.Test.YtbccljpbnbobmaaPutA
namespace Go.Proofs.Ytbccljpbnbobmaa
open Go.RowKit
set_option maxRecDepth 100000

theorem refPut_nat (x : Nat) (n : Nat) (hx : x < 18446744073709551616) (hn : n ≤ 1000) (w : World) :
    Calls Try.prog 21 #[.int .u64 (x : Int), .int .i64 (n : Int)] w fun e w' => e = .returned (.string ⟨(putL x n).toArray⟩) ∧ Below w.heap.size w w' := by
  go_enter Try.func21, Try.ntmps21
  go_wp2
  go_loopw [0, 5, 6] (fun y v i wr => ∃ k : Nat, k ≤ n ∧ i = .int .i64 k ∧ y = .int .u64 ((x : Int) / 256 ^ k) ∧ OwnB wr w.heap.size v (putL x k) ∧ Below w.heap.size w wr)
    (fun _ _ i _ => n - (intOf i).toNat)
  case atStart => exact ⟨0, Nat.zero_le _, rfl, by simp, OwnB.empty _ _ (Nat.le_refl _), (Below.refl _ _).alloc (Nat.le_refl _) _⟩
  case round =>
    obtain ⟨k, hk, rfl, rfl, hown, hb⟩ := hrel
    have hl := putL_length x k
    have hll : (putL x k).length < 140737488355328 := by omega
    clear hl
    have hbs := hb.size
    have hst := Lib.hid (put_step x k)
    have hxk : 0 ≤ (x : Int) / 256 ^ k := Int.ediv_nonneg (by omega) (Int.le_of_lt (Int.pow_pos (by decide)))
    have hxk2 : (x : Int) / 256 ^ k ≤ 18446744073709551615 := Int.le_trans (Int.ediv_le_self _ (by omega)) (by omega)
    by_cases hlt : k < n
    · go_wp2_with (at_builtin; go_must (refine wpList_append_byte _ rfl _ _ rfl w.heap.size _ (putL x k) _ hown rfl rfl rfl ?_ ?_ hll hbs ?_; omega; omega; intro v' w1 hown1 hb1))
      go_roundw
      case rel => exact ⟨k + 1, by omega, by go_num, by rw [div_pow_step], by rw [hst.out]; exact hown1, hb.trans hb1⟩
      case measure => simp [intOf]; omega
    · have hs := run_string_own wr _ _ _ hown
      go_wp2_with fail
      go_ret
      obtain rfl : k = n := by omega
      exact ⟨rfl, hb⟩

theorem refPut_neg (x : Nat) (n : Int) (hn : n < 0) (w : World) :
    Calls Try.prog 21 #[.int .u64 (x : Int), .int .i64 n] w fun e w' => e = .returned (.string ⟨(putL x 0).toArray⟩) ∧ Below w.heap.size w w' := by
  go_enter Try.func21, Try.ntmps21
  go_wp2
  refine wp_loop_rounds 1 ?_
  rw [rounds_succ]
  have hs := run_string_own _ _ _ _ (OwnB.empty w w.heap.size (Nat.le_refl _))
  go_wp2
  go_ret
  exact ⟨rfl, (Below.refl _ _).alloc (Nat.le_refl _) _⟩

theorem refPut_any (x : Nat) (n : Int) (hx : x < 18446744073709551616) (hn : n ≤ 1000) (w : World) :
    Calls Try.prog 21 #[.int .u64 (x : Int), .int .i64 n] w fun e w' => e = .returned (.string ⟨(putL x n.toNat).toArray⟩) ∧ Below w.heap.size w w' := by
  by_cases h : n < 0
  · have e : n.toNat = 0 := by omega
    rw [e]
    exact refPut_neg x n h w
  · obtain ⟨m, rfl⟩ := Int.eq_ofNat_of_zero_le (show 0 ≤ n by omega)
    rw [Int.toNat_natCast]
    exact refPut_nat x m hx (by omega) w
end Go.Proofs.Ytbccljpbnbobmaa
