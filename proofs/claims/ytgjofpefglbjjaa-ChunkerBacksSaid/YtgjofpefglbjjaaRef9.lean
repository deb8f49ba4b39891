/- The document's layer 9: List, Number, Degree, Fit, Product. Conditions: numbers of 64 bits, rows of at most a million. -/
import Derived.Test.YtgjofpefglbjjaaBRow
import Derived.Test.YtgjofpefglbjjaaPoly
import Derived.Test.YtgjofpefglbjjaaGf2
namespace Go.Proofs.Ytgjofpefglbjjaa
open Go.RowKit
set_option maxRecDepth 100000

theorem bit_eq (p k : Nat) : ((((p / 2 ^ k : Nat) : Int) % 2 == 1)) = p.testBit k := by
  rw [Nat.testBit_eq_decide_div_mod_eq]
  generalize p / 2 ^ k = q
  rw [Bool.eq_iff_iff]
  simp
  omega

theorem list_any (p : Nat) (hp : p < 18446744073709551616) (w : World) :
    Calls Try.prog 23 #[.int .u64 (p : Int)] w fun e w' => ∃ v, e = .returned v ∧ OwnV w' w.heap.size (Gf.len p) p v ∧ Below w.heap.size w w' := by
  have hl := len_le64 hp
  go_enter Try.func23, Try.ntmps23
  go_wp2_with fail
  have h0 := OwnV.empty w w.heap.size p (Nat.le_refl _)
  have hb0 := (Below.refl w.heap.size w).alloc (Nat.le_refl _) (.cells #[] 4)
  go_loopw [0, 3] (fun x v wr => ∃ k : Nat, k ≤ Gf.len p ∧ x = .int .u64 ((p / 2 ^ k : Nat) : Int) ∧ OwnV wr w.heap.size k p v ∧ Below w.heap.size w wr)
    (fun x _ _ => (intOf x).toNat)
  case atStart => exact ⟨0, by omega, by simp, h0, hb0⟩
  case round =>
    clear h0 hb0
    obtain ⟨k, hk, rfl, hown, hb⟩ := hrel
    have hbs := hb.size
    have hbit := bit_eq p k
    have hql : p / 2 ^ k ≤ p := Nat.div_le_self _ _
    have Hnext : Hid (p / 2 ^ (k + 1) = p / 2 ^ k / 2) := by show _ = _; rw [Nat.div_div_eq_div_mul, Nat.pow_succ]
    have Hlen : Hid (Gf.len p ≤ k → p / 2 ^ k = 0) := fun h => Nat.div_eq_of_lt (Gf.lt_of_len h)
    have Hz : Hid (p / 2 ^ k = 0 → Gf.len p ≤ k) := fun h => Gf.len_le (by
      rcases Nat.lt_or_ge p (2 ^ k) with h1 | h1
      · exact h1
      · have := Nat.div_pos h1 (Nat.pow_pos (by decide)); omega)
    obtain ⟨b, hbb⟩ : ∃ b, p.testBit k = b := ⟨_, rfl⟩
    rw [hbb] at hbit
    have Hb := Lib.hid hbb
    clear hbb
    generalize p / 2 ^ k = q at *
    by_cases hq0 : 0 < q
    · have hkl : k < Gf.len p := by
        rcases Nat.lt_or_ge k (Gf.len p) with h | h
        · exact h
        · have := Hlen.out h; omega
      go_wp2_with (at_builtin; go_must (refine wpList_append_bool _ rfl _ _ rfl w.heap.size _ k p b hown Hb.out rfl rfl rfl ?_ hbs ?_; omega; intro v' w1 hown1 hb1))
      go_roundw
      case rel => exact ⟨k + 1, hkl, by rw [Hnext.out]; rfl, hown1, hb.trans hb1⟩
      case measure => simp [intOf]; omega
    · obtain rfl : q = 0 := by omega
      go_wp2_with fail
      go_ret
      have e : Gf.len p = k := Nat.le_antisymm (Hz.out (by first | rfl | trivial)) hk
      exact ⟨_, rfl, by rw [e]; exact hown, hb⟩

theorem ret_int2 {k : IntKind} {a b : Int} (h : a = b) : Ending.returned (.int k a) = .returned (.int k b) := by rw [h]
theorem num_step (V n t : Nat) (ht : t < n) : V % 2 ^ n / 2 ^ t = 2 * (V % 2 ^ n / 2 ^ (t + 1)) + (if V.testBit t then 1 else 0) := by
  have h1 : V % 2 ^ n / 2 ^ (t + 1) = V % 2 ^ n / 2 ^ t / 2 := by rw [Nat.div_div_eq_div_mul, Nat.pow_succ]
  have h2 : V.testBit t = (V % 2 ^ n).testBit t := by rw [Nat.testBit_mod_two_pow]; simp [ht]
  rw [h1, h2, Nat.testBit_eq_decide_div_mod_eq]
  by_cases h : V % 2 ^ n / 2 ^ t % 2 = 1
  · simp [h]; omega
  · simp [h]; omega

theorem number_any (a : Option Addr) (n cap V : Nat) (hn : n ≤ 64) (w : World) (hr : BRow w a n V) :
    Calls Try.prog 47 #[.slice a n cap] w fun e w' => e = .returned (.int .u64 ((V % 2 ^ n : Nat) : Int)) ∧ w = w' := by
  have Hr := Lib.hid hr
  clear hr
  go_enter Try.func47, Try.ntmps47
  go_wp2_with fail
  go_loop [3, 4] (fun x i => ∃ (j : Nat) (ii : Int), j ≤ n ∧ Hid (ii = (j : Int) - 1) ∧ i = .int .i64 ii ∧ x = .int .u64 ((V % 2 ^ n / 2 ^ j : Nat) : Int))
    (fun _ i => (intOf i + 1).toNat)
  case atStart => exact ⟨n, (n : Int) - 1, Nat.le_refl _, rfl, rfl, by rw [Nat.div_eq_of_lt (Nat.mod_lt _ (Nat.pow_pos (by decide)))]; rfl⟩
  case round =>
    obtain ⟨j, ii, hj, Hii, rfl, rfl⟩ := hrel
    rcases Nat.eq_zero_or_pos j with rfl | hj0
    · obtain rfl : ii = -1 := by have := Hii.out; omega
      go_wp2_with fail
      go_ret
      exact ⟨ret_int2 (by simp), rfl⟩
    · obtain ⟨t, rfl⟩ : ∃ t, j = t + 1 := ⟨j - 1, by omega⟩
      obtain rfl : ii = (t : Int) := by have := Hii.out; omega
      obtain ⟨b, off, rfl, hbl, hc⟩ := Hr.out.get t (by omega)
      have Hst := Lib.hid (num_step V n t (by omega))
      have htn : t < n := by omega
      have hlt : V % 2 ^ n / 2 ^ (t + 1) < 9223372036854775808 := by
        have h1 : V % 2 ^ n < 2 ^ 64 := Nat.lt_of_lt_of_le (Nat.mod_lt _ (Nat.pow_pos (by decide))) (Nat.pow_le_pow_right (by decide) hn)
        have h2 : V % 2 ^ n / 2 ^ (t + 1) ≤ V % 2 ^ n / 2 := by
          have : 2 ≤ 2 ^ (t + 1) := by have := Nat.pow_le_pow_right (n := 2) (i := 1) (j := t + 1) (by decide) (by omega); simpa using this
          exact Nat.div_le_div_left this (by decide)
        simp at h1
        omega
      cases hv : V.testBit t
      · rw [hv] at hc Hst
        clear hv hj hj0
        generalize V % 2 ^ n / 2 ^ (t + 1) = x at *
        go_wp2_with fail
        go_round
        case rel => exact ⟨t, (t : Int) - 1, by omega, rfl, rfl, by rw [Hst.out]; simp⟩
        case measure => (simp [intOf] <;> omega)
      · rw [hv] at hc Hst
        clear hv hj hj0
        generalize V % 2 ^ n / 2 ^ (t + 1) = x at *
        go_wp2_with fail
        go_round
        case rel => exact ⟨t, (t : Int) - 1, by omega, rfl, rfl, by rw [Hst.out]; simp⟩
        case measure => (simp [intOf] <;> omega)

theorem refDegree_any (p : Nat) (hp : p < 18446744073709551616) (d : Int) (hd : d = (Gf.len p : Int) - 1) (w : World) :
    Calls Try.prog 17 #[.int .u64 (p : Int)] w fun e w' => e = .returned (.int .i64 d) ∧ Below w.heap.size w w' := by
  have hl := len_le64 hp
  have H := Lib.hid hd
  clear hd
  go_enter Try.func17, Try.ntmps17
  go_wp2_with (refine (list_any p hp _).mono ?_; rintro e w1 ⟨v, rfl, ⟨g, cap, rfl, hown⟩, hb⟩)
  go_ret
  exact ⟨ret_int2 (by have := H.out; omega), hb⟩

theorem refFit_any (m : Nat) (hm : m < 18446744073709551616) (w : World) :
    Calls Try.prog 21 #[.int .u64 (m : Int)] w fun e w' => e = .returned (.bool (fitB m)) ∧ Below w.heap.size w w' := by
  have hl := len_le64 hm
  obtain ⟨d, hd⟩ : ∃ d : Int, d = (Gf.len m : Int) - 1 := ⟨_, rfl⟩
  have H := Lib.hid hd
  have hd0 : -1 ≤ d := by omega
  have hd1 : d ≤ 63 := by omega
  have Hr : Hid (fitB m = decide (1 ≤ d ∧ d ≤ 62)) := by
    show _ = _
    unfold fitB
    refine decide_eq_decide.2 ?_
    omega
  clear hd
  by_cases h1 : 1 ≤ d
  · by_cases h2 : d ≤ 62
    · go_enter Try.func21, Try.ntmps21
      go_wp2_with fail
      refine (refDegree_any m hm d H.out _).mono ?_
      rintro e w1 ⟨rfl, hb1⟩
      go_wp2_with fail
      refine (refDegree_any m hm d H.out _).mono ?_
      rintro e w2 ⟨rfl, hb2⟩
      go_wp2_with fail
      go_ret
      exact ⟨by rw [Hr.out]; simp; omega, bthen hb1 hb2⟩
    · have h3 : decide (d ≤ 62) = false := by simpa using h2
      go_enter Try.func21, Try.ntmps21
      go_wp2_with fail
      refine (refDegree_any m hm d H.out _).mono ?_
      rintro e w1 ⟨rfl, hb1⟩
      go_wp2_with fail
      refine (refDegree_any m hm d H.out _).mono ?_
      rintro e w2 ⟨rfl, hb2⟩
      go_wp2_with fail
      go_ret
      exact ⟨by rw [Hr.out]; simp; omega, bthen hb1 hb2⟩
  · have h3 : decide (1 ≤ d) = false := by simpa using h1
    go_enter Try.func21, Try.ntmps21
    go_wp2_with fail
    refine (refDegree_any m hm d H.out _).mono ?_
    rintro e w1 ⟨rfl, hb1⟩
    go_wp2_with fail
    go_ret
    exact ⟨by rw [Hr.out]; simp; omega, hb1⟩
end Go.Proofs.Ytgjofpefglbjjaa
