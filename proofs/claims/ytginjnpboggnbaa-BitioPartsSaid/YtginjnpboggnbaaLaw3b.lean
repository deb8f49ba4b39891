/- BitioParts: any numbers. Conditions: none. -/
import Derived.Test.YtginjnpboggnbaaLaw3a
namespace Go.Proofs.Ytginjnpboggnbaa
open Go.RowKit
set_option maxRecDepth 100000

theorem parts_out (s0 : ByteArray) (hs0 : s0.size ≤ maxLen) (k a b : Int) (h : k < 0 ∨ 900 < k ∨ a < 0 ∨ b < 0 ∨ 32 < a ∨ 32 - a < b) (w : World) :
    Calls Try.prog 5 #[.string s0, .int .i64 k, .int .i64 a, .int .i64 b] w fun e w' => e = .returned (.bool true) ∧ Below w.heap.size w w' := by
  have CF := Lib.hid (few_any s0 100 (by decide) hs0 w)
  have CA := Lib.hid (awake3_any)
  clear hs0
  by_cases h1 : k < 0
  · have n1 : decide (k < 0) = true := by rw [decide_eq_true_eq]; omega
    clear h h1
    go_enter Try.func5, Try.ntmps5
    go_wp2_with fail
    refine CF.out.mono ?_
    rintro e w0 ⟨rfl, rfl⟩
    go_wp2_with fail
    refine (CA.out _).mono ?_
    rintro e w1 ⟨rfl, hb⟩
    go_wp2_with fail
    go_ret
    exact ⟨rfl, hb⟩
  have n1 : decide (k < 0) = false := by rw [decide_eq_false_iff_not]; omega
  by_cases h2 : 900 < k
  · have n2 : decide (900 < k) = true := by rw [decide_eq_true_eq]; omega
    clear h h1 h2
    go_enter Try.func5, Try.ntmps5
    go_wp2_with fail
    refine CF.out.mono ?_
    rintro e w0 ⟨rfl, rfl⟩
    go_wp2_with fail
    refine (CA.out _).mono ?_
    rintro e w1 ⟨rfl, hb⟩
    go_wp2_with fail
    go_ret
    exact ⟨rfl, hb⟩
  have n2 : decide (900 < k) = false := by rw [decide_eq_false_iff_not]; omega
  by_cases h3 : a < 0
  · have n3 : decide (a < 0) = true := by rw [decide_eq_true_eq]; omega
    clear h h1 h2 h3
    go_enter Try.func5, Try.ntmps5
    go_wp2_with fail
    refine CF.out.mono ?_
    rintro e w0 ⟨rfl, rfl⟩
    go_wp2_with fail
    refine (CA.out _).mono ?_
    rintro e w1 ⟨rfl, hb⟩
    go_wp2_with fail
    go_ret
    exact ⟨rfl, hb⟩
  have n3 : decide (a < 0) = false := by rw [decide_eq_false_iff_not]; omega
  by_cases h4 : b < 0
  · have n4 : decide (b < 0) = true := by rw [decide_eq_true_eq]; omega
    clear h h1 h2 h3 h4
    go_enter Try.func5, Try.ntmps5
    go_wp2_with fail
    refine CF.out.mono ?_
    rintro e w0 ⟨rfl, rfl⟩
    go_wp2_with fail
    refine (CA.out _).mono ?_
    rintro e w1 ⟨rfl, hb⟩
    go_wp2_with fail
    go_ret
    exact ⟨rfl, hb⟩
  have n4 : decide (b < 0) = false := by rw [decide_eq_false_iff_not]; omega
  by_cases h5 : 32 < a
  · have n5 : decide (32 < a) = true := by rw [decide_eq_true_eq]; omega
    clear h h1 h2 h3 h4 h5
    go_enter Try.func5, Try.ntmps5
    go_wp2_with fail
    refine CF.out.mono ?_
    rintro e w0 ⟨rfl, rfl⟩
    go_wp2_with fail
    refine (CA.out _).mono ?_
    rintro e w1 ⟨rfl, hb⟩
    go_wp2_with fail
    go_ret
    exact ⟨rfl, hb⟩
  have n5 : decide (32 < a) = false := by rw [decide_eq_false_iff_not]; omega
  have n6 : decide (32 - a < b) = true := by rw [decide_eq_true_eq]; omega
  have ha0 : 0 ≤ a := by omega
  have ha1 : a ≤ 32 := by omega
  clear h h1 h2 h3 h4 h5
  go_enter Try.func5, Try.ntmps5
  go_wp2_with fail
  refine CF.out.mono ?_
  rintro e w0 ⟨rfl, rfl⟩
  go_wp2_with fail
  refine (CA.out _).mono ?_
  rintro e w1 ⟨rfl, hb⟩
  go_wp2_with fail
  go_ret
  exact ⟨rfl, hb⟩
theorem parts_any (s0 : ByteArray) (hs0 : s0.size ≤ maxLen) (k a b : Int) (w : World) :
    Calls Try.prog 5 #[.string s0, .int .i64 k, .int .i64 a, .int .i64 b] w fun e w' => e = .returned (.bool true) ∧ Below w.heap.size w w' := by
  by_cases h : k < 0 ∨ 900 < k ∨ a < 0 ∨ b < 0 ∨ 32 < a ∨ 32 - a < b
  · exact parts_out s0 hs0 k a b h w
  · obtain ⟨K, rfl⟩ : ∃ K : Nat, k = (K : Int) := ⟨k.toNat, by omega⟩
    obtain ⟨A, rfl⟩ : ∃ K : Nat, a = (K : Int) := ⟨a.toNat, by omega⟩
    obtain ⟨B, rfl⟩ : ∃ K : Nat, b = (K : Int) := ⟨b.toNat, by omega⟩
    exact parts_in s0 hs0 K A B (by omega) (by omega) (by omega) w
end Go.Proofs.Ytginjnpboggnbaa
