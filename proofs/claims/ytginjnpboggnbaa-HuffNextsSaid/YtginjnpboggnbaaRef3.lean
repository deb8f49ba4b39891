/- The document's answer of layer 3: Within, Bit, Number, Row. Conditions: none. -/
import Derived.Test.YtginjnpboggnbaaSource3
import Derived.Test.YtginjnpboggnbaaBRow
namespace Go.Proofs.Ytginjnpboggnbaa
open Go.RowKit
set_option maxRecDepth 100000

theorem within_any (B N : Int) (k : Nat) (hB : 0 ≤ B) (hN : ClampB B N k) (w : World) :
    Calls Try.prog 19 #[.int .i64 N, .int .i64 B] w fun e w' => e = .returned (.int .i64 (k : Int)) ∧ w = w' := by
  unfold ClampB at hN
  by_cases h1 : N < 0
  · have d1 : decide (N < 0) = true := by rw [decide_eq_true_eq]; omega
    obtain rfl : k = 0 := by omega
    clear hN h1 hB
    go_enter Try.func19, Try.ntmps19
    go_wp2_with fail
    go_ret
    exact ⟨rfl, rfl⟩
  · have d1 : decide (N < 0) = false := by rw [decide_eq_false_iff_not]; omega
    by_cases h2 : B < N
    · have d2 : decide (B < N) = true := by rw [decide_eq_true_eq]; omega
      obtain rfl : B = (k : Int) := by omega
      clear hN h1 h2 hB
      go_enter Try.func19, Try.ntmps19
      go_wp2_with fail
      go_ret
      exact ⟨rfl, rfl⟩
    · have d2 : decide (B < N) = false := by rw [decide_eq_false_iff_not]; omega
      obtain rfl : N = (k : Int) := by omega
      clear hN h1 h2 hB
      go_enter Try.func19, Try.ntmps19
      go_wp2_with fail
      go_ret
      exact ⟨rfl, rfl⟩

/-- One bit of a number. -/
def bit (V i : Nat) : Nat := V / 2 ^ i % 2
theorem bit_test (V i : Nat) : V.testBit i = decide (bit V i = 1) := by
  unfold bit
  rw [Nat.testBit_eq_decide_div_mod_eq]
theorem bit_lt (V i : Nat) : bit V i < 2 := Nat.mod_lt _ (by decide)
theorem bit_out (V n i : Nat) (hV : V < 2 ^ n) (h : n ≤ i) : bit V i = 0 := by
  unfold bit
  rw [Nat.div_eq_of_lt (Nat.lt_of_lt_of_le hV (Nat.pow_le_pow_right (by decide) h))]

theorem bit_any (a : Option Addr) (n cap V : Nat) (_hn : n ≤ 1000000000) (hV : V < 2 ^ n) (i : Nat) (hi : i ≤ 1000000000) (w : World) (hr : BRow w a n V) :
    Calls Try.prog 50 #[.slice a n cap, .int .i64 (i : Int)] w fun e w' => e = .returned (.int .u32 (bit V i : Int)) ∧ w = w' := by
  have d0 : decide (0 ≤ (i : Int)) = true := by rw [decide_eq_true_eq]; omega
  by_cases h : i < n
  · have d1 : decide ((i : Int) < (n : Int)) = true := by rw [decide_eq_true_eq]; omega
    obtain ⟨b, off, rfl, _, c0⟩ := hr.get i h
    obtain ⟨B, HB⟩ : ∃ B, Hid (V.testBit i = B) := ⟨_, Lib.hid (Eq.refl _)⟩
    rw [HB.out] at c0
    have hB := HB.out
    rw [bit_test] at hB
    have hl := bit_lt V i
    cases B with
    | true =>
      have e : bit V i = 1 := by simpa using hB
      rw [e]
      clear hr hV hB hl e HB
      go_enter Try.func50, Try.ntmps50
      go_wp2_with fail
      go_ret
      exact ⟨rfl, rfl⟩
    | false =>
      have e : bit V i = 0 := by have : ¬ bit V i = 1 := by simpa using hB
                                 omega
      rw [e]
      clear hr hV hB hl e HB
      go_enter Try.func50, Try.ntmps50
      go_wp2_with fail
      go_ret
      exact ⟨rfl, rfl⟩
  · have d1 : decide ((i : Int) < (n : Int)) = false := by rw [decide_eq_false_iff_not]; omega
    rw [bit_out V n i hV (by omega)]
    clear hr hV
    go_enter Try.func50, Try.ntmps50
    go_wp2_with fail
    go_ret
    exact ⟨rfl, rfl⟩

/-- What Number has after j bits. -/
def part (V p n j : Nat) : Bool → Nat
  | false => V / 2 ^ p % 2 ^ j
  | true => rev (V / 2 ^ p) j * 2 ^ (n - j)
theorem part_step (V p n j : Nat) (b : Bool) (h : j < n) : part V p n (j + 1) b = part V p n j b + bit V (p + j) * 2 ^ (if b then n - 1 - j else j) := by
  have e : V / 2 ^ p / 2 ^ j % 2 = bit V (p + j) := by unfold bit; rw [Nat.div_div_eq_div_mul, ← Nat.pow_add]
  cases b with
  | false =>
    unfold part
    rw [Nat.pow_succ, Nat.mod_mul, e, Nat.mul_comm (2 ^ j)]
    rfl
  | true =>
    unfold part
    simp only [rev, e]
    rw [show n - j = (n - (j + 1)) + 1 by omega, Nat.pow_succ, show n - 1 - j = n - (j + 1) by omega, Nat.add_mul]
    simp only [if_true]
    have : rev (V / 2 ^ p) j * (2 ^ (n - (j + 1)) * 2) = 2 * rev (V / 2 ^ p) j * 2 ^ (n - (j + 1)) := by
      rw [Nat.mul_comm (2 ^ (n - (j + 1))) 2, ← Nat.mul_assoc, Nat.mul_comm _ 2]
    omega
theorem part_lt (V p n j : Nat) (b : Bool) (h : j ≤ n) : part V p n j b < 2 ^ n := by
  cases b with
  | false => exact Nat.lt_of_lt_of_le (Nat.mod_lt _ (pow_pos2 j)) (Nat.pow_le_pow_right (by decide) h)
  | true =>
    show rev (V / 2 ^ p) j * 2 ^ (n - j) < 2 ^ n
    have h1 := Nat.mul_le_mul_right (2 ^ (n - j)) (show rev (V / 2 ^ p) j + 1 ≤ 2 ^ j from rev_lt _ _)
    rw [← Nat.pow_add, show j + (n - j) = n by omega, Nat.add_mul, Nat.one_mul] at h1
    have := pow_pos2 (n - j)
    omega
theorem part_zero (V p n : Nat) (b : Bool) : part V p n 0 b = 0 := by
  cases b with
  | false => unfold part; exact Nat.mod_one _
  | true => simp [part, rev]

/-- Number's answer. -/
def numAt (V p n : Nat) (b : Bool) : Nat := part V p n n b
theorem numAt_false (V p n : Nat) : numAt V p n false = V / 2 ^ p % 2 ^ n := rfl
theorem numAt_true (V p n : Nat) : numAt V p n true = rev (V / 2 ^ p % 2 ^ n) n := by
  unfold numAt part
  rw [Nat.sub_self, Nat.pow_zero, Nat.mul_one, rev_mod _ _ _ (Nat.le_refl _)]

theorem number_any (a : Option Addr) (n cap V : Nat) (hn : n ≤ 900000000) (hV : V < 2 ^ n) (p k : Nat) (hp : p ≤ 900000000) (hk : k ≤ 32) (b : Bool) (w : World) (hr : BRow w a n V) :
    Calls Try.prog 36 #[.slice a n cap, .int .i64 (p : Int), .int .i64 (k : Int), .bool b] w fun e w' => e = .returned (.int .u32 (numAt V p k b : Int)) ∧ w = w' := by
  have Hr := Lib.hid hr
  have HV := Lib.hid hV
  clear hr hV
  go_enter Try.func36, Try.ntmps36
  go_wp2_with fail
  go_loopw [9, 10] (fun x i wr => ∃ j A : Nat, j ≤ k ∧ i = .int .i64 (j : Int) ∧ x = .int .u32 (A : Int) ∧ A < 4294967296 ∧ Hid (part V p k j b = A) ∧ wr = w) (fun _ i _ => k - (intOf i).toNat)
  case atStart => exact ⟨0, 0, by omega, rfl, rfl, by decide, part_zero V p k b, rfl⟩
  case round =>
    obtain ⟨j, A, hj, rfl, rfl, hA, HA, rfl⟩ := hrel
    by_cases hlt : j < k
    · have CB := Lib.hid (bit_any a n cap V (by omega) HV.out (p + j) (by omega) _ Hr.out)
      obtain ⟨B, HB⟩ : ∃ B, Hid (bit V (p + j) = B) := ⟨_, Lib.hid (Eq.refl _)⟩
      have hBl : B < 2 := by rw [← HB.out]; exact bit_lt _ _
      rw [HB.out] at CB
      have e1 : ((p + j : Nat) : Int) = (p : Int) + (j : Int) := by omega
      rw [e1] at CB
      have d1 : decide ((j : Int) < (k : Int)) = true := by rw [decide_eq_true_eq]; omega
      obtain ⟨t, Ht⟩ : ∃ t, Hid ((if b then k - 1 - j else j) = t) := ⟨_, Lib.hid (Eq.refl _)⟩
      have htl : t ≤ 31 := by have := Ht.out; split at this <;> omega
      have hst := part_step V p k j b hlt
      have hlt2 := part_lt V p k (j + 1) b hlt
      rw [HA.out, HB.out, Ht.out] at hst
      have hk2 : 2 ^ k ≤ 4294967296 := Nat.le_trans (Nat.pow_le_pow_right (by decide) hk) (by decide)
      obtain ⟨D, HD⟩ : ∃ D, Hid (B * 2 ^ t = D) := ⟨_, Lib.hid (Eq.refl _)⟩
      rw [HD.out] at hst
      rw [hst] at hlt2
      have w1 : IntKind.u32.wrap ((B : Int) * 2 ^ t) = (D : Int) := by
        have e : (B : Int) * 2 ^ t = ((B * 2 ^ t : Nat) : Int) := by simp
        rw [e, HD.out, IntKind.wrap_u32]
        omega
      have HA2 : Hid (part V p k (j + 1) b = A + D) := hst
      have hAD : A + D < 4294967296 := by omega
      cases b with
      | false =>
        obtain rfl : j = t := by have := Ht.out; simpa using this
        clear hst hlt2 hk2 HB HD Ht e1
        go_wp2_with fail
        refine CB.out.mono ?_
        rintro e w2 ⟨rfl, rfl⟩
        go_wp2_with fail
        go_roundw
        case rel => exact ⟨j + 1, A + D, by omega, by go_num, by go_num, hAD, HA2, by first | trivial | rfl⟩
        case measure => simp [intOf]; omega
      | true =>
        have et : (k : Int) - 1 - (j : Int) = (t : Int) := by have := Ht.out; simp at this; omega
        clear hst hlt2 hk2 HB HD Ht e1
        go_wp2_with fail
        refine CB.out.mono ?_
        rintro e w2 ⟨rfl, rfl⟩
        go_wp2_with fail
        go_roundw
        case rel => exact ⟨j + 1, A + D, by omega, by go_num, by go_num, hAD, HA2, by first | trivial | rfl⟩
        case measure => simp [intOf]; omega
    · obtain rfl : j = k := by omega
      have d1 : decide ((j : Int) < (j : Int)) = false := by rw [decide_eq_false_iff_not]; omega
      go_wp2_with fail
      go_ret
      exact ⟨by rw [← HA.out]; rfl, rfl⟩
end Go.Proofs.Ytginjnpboggnbaa
