/- inflate.Size. Conditions: none. -/
import Derived.Test.YtjnglahjngiofaaBase
namespace Go.Proofs.Ytjnglahjngiofaa
open Go.RowKit
set_option maxRecDepth 100000

/-- Base and further bits behind k symbols. -/
def stepS (step first : Nat) : Nat → Nat × Nat
  | 0 => (first, 0)
  | k + 1 => let m := if 2 * step ≤ k ∧ k % step = 0 then (stepS step first k).2 + 1 else (stepS step first k).2
             ((stepS step first k).1 + 2 ^ m, m)
/-- The further bits of symbol i. -/
def moreS (step first i : Nat) : Nat := if 2 * step ≤ i ∧ i % step = 0 then (stepS step first i).2 + 1 else (stepS step first i).2
theorem stepS_le : ∀ k, k ≤ 29 → (stepS 4 3 k).1 ≤ 100000 ∧ (stepS 4 3 k).2 ≤ 14 ∧ (stepS 2 1 k).1 ≤ 100000 ∧ (stepS 2 1 k).2 ≤ 14 := by decide
theorem stepS_succ (step first k : Nat) : stepS step first (k + 1) = ((stepS step first k).1 + 2 ^ (moreS step first k), moreS step first k) := rfl
/-- The least size and the further bits. -/
def sizeS (far : Bool) (i : Int) : Nat × Nat :=
  if far then (if i < 0 ∨ 29 < i then (0, 0) else ((stepS 2 1 i.toNat).1, moreS 2 1 i.toNat))
  else (if i < 0 ∨ 28 < i then (0, 0) else if i = 28 then (258, 0) else ((stepS 4 3 i.toNat).1, moreS 4 3 i.toNat))

set_option maxHeartbeats 4000000 in
theorem size_far (i : Int) (w : World) : Calls Try.prog 34 #[.int .i64 i, .bool true] w fun e w' => e = .returned (.tuple #[.int .i64 ((sizeS true i).1 : Int), .int .i64 ((sizeS true i).2 : Int)]) ∧ ∃ n, w' = w.drewN n := by
  by_cases h0 : i < 0
  · have d0 : decide (i < 0) = true := by rw [decide_eq_true_eq]; exact h0
    have e : sizeS true i = (0, 0) := by unfold sizeS; rw [if_pos rfl, if_pos (.inl h0)]
    rw [e]
    clear h0
    go_enter Try.func34, Try.ntmps34
    go_wp2_with fail
    go_ret2
    exact ⟨rfl, 0, rfl⟩
  · have d0 : decide (i < 0) = false := by rw [decide_eq_false_iff_not]; exact h0
    by_cases h1 : 29 < i
    · have d1 : decide (29 < i) = true := by rw [decide_eq_true_eq]; exact h1
      have e : sizeS true i = (0, 0) := by unfold sizeS; rw [if_pos rfl, if_pos (.inr h1)]
      rw [e]
      clear h0 h1
      go_enter Try.func34, Try.ntmps34
      go_wp2_with fail
      go_ret2
      exact ⟨rfl, 0, rfl⟩
    · have d1 : decide (29 < i) = false := by rw [decide_eq_false_iff_not]; exact h1
      obtain ⟨n, rfl⟩ : ∃ n : Nat, i = (n : Int) := ⟨i.toNat, by omega⟩
      have hn : n ≤ 29 := by omega
      have e : sizeS true (n : Int) = ((stepS 2 1 n).1, moreS 2 1 n) := by unfold sizeS; rw [if_pos rfl, if_neg (by omega)]; rfl
      have d1b : decide (29 < n) = false := by rw [decide_eq_false_iff_not]; omega
      rw [e]
      clear h0 h1 e
      obtain ⟨R1, HR1⟩ : ∃ r, Hid ((stepS 2 1 n).1 = r) := ⟨_, Lib.hid (Eq.refl _)⟩
      obtain ⟨R2, HR2⟩ : ∃ r, Hid (moreS 2 1 n = r) := ⟨_, Lib.hid (Eq.refl _)⟩
      rw [HR1.out, HR2.out]
      go_enter Try.func34, Try.ntmps34
      go_wp2_with fail
      go_loopw [9, 10, 29] (fun b_ m_ k_ wr => ∃ k b m : Nat, k ≤ n ∧ k_ = .int .i64 (k : Int) ∧ b_ = .int .i64 (b : Int) ∧ m_ = .int .i64 (m : Int) ∧ Hid ((stepS 2 1 k).1 = b) ∧ Hid ((stepS 2 1 k).2 = m) ∧ wr = w) (fun _ _ k _ => n - (intOf k).toNat)
      case atStart => exact ⟨0, 1, 0, by omega, rfl, rfl, rfl, rfl, rfl, rfl⟩
      case round =>
        obtain ⟨k, b, m, hk, rfl, rfl, rfl, Hb, Hm, rfl⟩ := hrel
        have hle := stepS_le k (by omega)
        have hbl : b ≤ 100000 := by rw [← Hb.out]; exact hle.2.2.1
        have hml : m ≤ 14 := by rw [← Hm.out]; exact hle.2.2.2
        clear hle
        obtain ⟨r, Hr⟩ : ∃ r, Hid (k % 2 = r) := ⟨_, Lib.hid (Eq.refl _)⟩
        have hr : (k : Int).tmod 2 = (r : Int) := by rw [Int.tmod_eq_emod_of_nonneg (by omega)]; have := Hr.out; omega
        have hr2 : (k : Int) % 2 = (r : Int) := by have := Hr.out; omega
        by_cases hlt : k < n
        · have dk : decide ((k : Int) < (n : Int)) = true := by rw [decide_eq_true_eq]; omega
          have hms := moreS 2 1 k
          obtain ⟨q, Hq⟩ : ∃ q, Hid (moreS 2 1 k = q) := ⟨_, Lib.hid (Eq.refl _)⟩
          have hql : q ≤ 15 := by have := Hq.out; unfold moreS at this; rw [Hm.out] at this; split at this <;> omega
          have hq64 : min q 64 = q := by omega
          obtain ⟨p2, Hp2⟩ : ∃ p, Hid (2 ^ q = p) := ⟨_, Lib.hid (Eq.refl _)⟩
          have hp2 : p2 ≤ 32768 := by rw [← Hp2.out]; exact Nat.pow_le_pow_right (by decide) hql
          have hpI : (2 : Int) ^ q = (p2 : Int) := by rw [← Hp2.out]; simp
          have hw1 : IntKind.i64.wrap (p2 : Int) = (p2 : Int) := IntWalk.i64_in _ (by omega)
          have hw2 : IntKind.i64.wrap ((b : Int) + (p2 : Int)) = (b : Int) + (p2 : Int) := IntWalk.i64_in _ (by omega)
          have hstep := stepS_succ 2 1 k
          rw [Hb.out, Hq.out, Hp2.out] at hstep
          have Hs1 : Hid ((stepS 2 1 (k + 1)).1 = b + p2) := by show _ = _; rw [hstep]
          have Hs2 : Hid ((stepS 2 1 (k + 1)).2 = q) := by show _ = _; rw [hstep]
          clear hstep hms
          by_cases h4 : 4 ≤ k
          · have d4 : decide ((4 : Int) ≤ (k : Int)) = true := by rw [decide_eq_true_eq]; omega
            have d4b : decide (4 ≤ k) = true := by rw [decide_eq_true_eq]; omega
            by_cases hr0 : r = 0
            · subst hr0
              have eq : m + 1 = q := by rw [← Hq.out, ← Hm.out]; unfold moreS; rw [if_pos ⟨by omega, Hr.out⟩]
              subst eq
              go_wp2_with fail
              go_roundw
              case rel => exact ⟨k + 1, b + p2, m + 1, by omega, by go_num, by go_num, by go_num, Hs1, Hs2, (by first | rfl | trivial)⟩
              case measure => simp [intOf]; omega
            · have d0r : ((r : Int) == 0) = false := by simp; omega
              have eq : m = q := by rw [← Hq.out, ← Hm.out]; unfold moreS; rw [if_neg (fun h => hr0 (by have := Hr.out; omega))]
              subst eq
              go_wp2_with fail
              go_roundw
              case rel => exact ⟨k + 1, b + p2, m, by omega, by go_num, by go_num, rfl, Hs1, Hs2, (by first | rfl | trivial)⟩
              case measure => simp [intOf]; omega
          · have d4 : decide ((4 : Int) ≤ (k : Int)) = false := by rw [decide_eq_false_iff_not]; omega
            have d4b : decide (4 ≤ k) = false := by rw [decide_eq_false_iff_not]; omega
            have eq : m = q := by rw [← Hq.out, ← Hm.out]; unfold moreS; rw [if_neg (by omega)]
            subst eq
            go_wp2_with fail
            go_roundw
            case rel => exact ⟨k + 1, b + p2, m, by omega, by go_num, by go_num, rfl, Hs1, Hs2, (by first | rfl | trivial)⟩
            case measure => simp [intOf]; omega
        · obtain rfl : k = n := by omega
          have dk : decide ((k : Int) < (k : Int)) = false := by rw [decide_eq_false_iff_not]; omega
          have e1 : b = R1 := by rw [← Hb.out, ← HR1.out]
          subst e1
          by_cases h4 : 4 ≤ k
          · have d4 : decide ((4 : Int) ≤ (k : Int)) = true := by rw [decide_eq_true_eq]; omega
            have d4b : decide (4 ≤ k) = true := by rw [decide_eq_true_eq]; omega
            by_cases hr0 : r = 0
            · subst hr0
              have eq : m + 1 = R2 := by rw [← HR2.out, ← Hm.out]; unfold moreS; rw [if_pos ⟨by omega, Hr.out⟩]
              subst eq
              go_wp2_with fail
              go_ret2
              exact ⟨rfl, 0, rfl⟩
            · have d0r : ((r : Int) == 0) = false := by simp; omega
              have eq : m = R2 := by rw [← HR2.out, ← Hm.out]; unfold moreS; rw [if_neg (fun h => hr0 (by have := Hr.out; omega))]
              subst eq
              go_wp2_with fail
              go_ret2
              exact ⟨rfl, 0, rfl⟩
          · have d4 : decide ((4 : Int) ≤ (k : Int)) = false := by rw [decide_eq_false_iff_not]; omega
            have d4b : decide (4 ≤ k) = false := by rw [decide_eq_false_iff_not]; omega
            have eq : m = R2 := by rw [← HR2.out, ← Hm.out]; unfold moreS; rw [if_neg (by omega)]
            subst eq
            go_wp2_with fail
            go_ret2
            exact ⟨rfl, 0, rfl⟩
set_option maxHeartbeats 4000000 in
theorem size_near (i : Int) (w : World) : Calls Try.prog 34 #[.int .i64 i, .bool false] w fun e w' => e = .returned (.tuple #[.int .i64 ((sizeS false i).1 : Int), .int .i64 ((sizeS false i).2 : Int)]) ∧ ∃ n, w' = w.drewN n := by
  by_cases h0 : i < 0
  · have d0 : decide (i < 0) = true := by rw [decide_eq_true_eq]; exact h0
    have e : sizeS false i = (0, 0) := by unfold sizeS; rw [if_neg (by decide), if_pos (.inl h0)]
    rw [e]
    clear h0
    go_enter Try.func34, Try.ntmps34
    go_wp2_with fail
    go_ret2
    exact ⟨rfl, 0, rfl⟩
  · have d0 : decide (i < 0) = false := by rw [decide_eq_false_iff_not]; exact h0
    by_cases h1 : 28 < i
    · have d1 : decide (28 < i) = true := by rw [decide_eq_true_eq]; exact h1
      have e : sizeS false i = (0, 0) := by unfold sizeS; rw [if_neg (by decide), if_pos (.inr h1)]
      rw [e]
      clear h0 h1
      go_enter Try.func34, Try.ntmps34
      go_wp2_with fail
      go_ret2
      exact ⟨rfl, 0, rfl⟩
    · have d1 : decide (28 < i) = false := by rw [decide_eq_false_iff_not]; exact h1
      obtain ⟨n, rfl⟩ : ∃ n : Nat, i = (n : Int) := ⟨i.toNat, by omega⟩
      have hn : n ≤ 28 := by omega
      by_cases h28 : n = 28
      · have e : sizeS false (n : Int) = (258, 0) := by subst h28; rfl
        have d28 : ((n : Int) == 28) = true := by simp; omega
        rw [e]
        subst h28
        clear h0 h1 e
        go_enter Try.func34, Try.ntmps34
        go_wp2_with fail
        go_ret2
        exact ⟨rfl, 0, rfl⟩
      · skip
        have e : sizeS false (n : Int) = ((stepS 4 3 n).1, moreS 4 3 n) := by unfold sizeS; rw [if_neg (by decide), if_neg (by omega), if_neg (by omega)]; rfl
        have d28 : ((n : Int) == 28) = false := by simp; omega
        have d28b : (n == 28) = false := by simp; omega
        have d1b : decide (28 < n) = false := by rw [decide_eq_false_iff_not]; omega
        rw [e]
        clear h0 h1 e
        obtain ⟨R1, HR1⟩ : ∃ r, Hid ((stepS 4 3 n).1 = r) := ⟨_, Lib.hid (Eq.refl _)⟩
        obtain ⟨R2, HR2⟩ : ∃ r, Hid (moreS 4 3 n = r) := ⟨_, Lib.hid (Eq.refl _)⟩
        rw [HR1.out, HR2.out]
        go_enter Try.func34, Try.ntmps34
        go_wp2_with fail
        go_loopw [9, 10, 29] (fun b_ m_ k_ wr => ∃ k b m : Nat, k ≤ n ∧ k_ = .int .i64 (k : Int) ∧ b_ = .int .i64 (b : Int) ∧ m_ = .int .i64 (m : Int) ∧ Hid ((stepS 4 3 k).1 = b) ∧ Hid ((stepS 4 3 k).2 = m) ∧ wr = w) (fun _ _ k _ => n - (intOf k).toNat)
        case atStart => exact ⟨0, 3, 0, by omega, rfl, rfl, rfl, rfl, rfl, rfl⟩
        case round =>
          obtain ⟨k, b, m, hk, rfl, rfl, rfl, Hb, Hm, rfl⟩ := hrel
          have hle := stepS_le k (by omega)
          have hbl : b ≤ 100000 := by rw [← Hb.out]; exact hle.1
          have hml : m ≤ 14 := by rw [← Hm.out]; exact hle.2.1
          clear hle
          obtain ⟨r, Hr⟩ : ∃ r, Hid (k % 4 = r) := ⟨_, Lib.hid (Eq.refl _)⟩
          have hr : (k : Int).tmod 4 = (r : Int) := by rw [Int.tmod_eq_emod_of_nonneg (by omega)]; have := Hr.out; omega
          have hr2 : (k : Int) % 4 = (r : Int) := by have := Hr.out; omega
          by_cases hlt : k < n
          · have dk : decide ((k : Int) < (n : Int)) = true := by rw [decide_eq_true_eq]; omega
            have hms := moreS 4 3 k
            obtain ⟨q, Hq⟩ : ∃ q, Hid (moreS 4 3 k = q) := ⟨_, Lib.hid (Eq.refl _)⟩
            have hql : q ≤ 15 := by have := Hq.out; unfold moreS at this; rw [Hm.out] at this; split at this <;> omega
            have hq64 : min q 64 = q := by omega
            obtain ⟨p2, Hp2⟩ : ∃ p, Hid (2 ^ q = p) := ⟨_, Lib.hid (Eq.refl _)⟩
            have hp2 : p2 ≤ 32768 := by rw [← Hp2.out]; exact Nat.pow_le_pow_right (by decide) hql
            have hpI : (2 : Int) ^ q = (p2 : Int) := by rw [← Hp2.out]; simp
            have hw1 : IntKind.i64.wrap (p2 : Int) = (p2 : Int) := IntWalk.i64_in _ (by omega)
            have hw2 : IntKind.i64.wrap ((b : Int) + (p2 : Int)) = (b : Int) + (p2 : Int) := IntWalk.i64_in _ (by omega)
            have hstep := stepS_succ 4 3 k
            rw [Hb.out, Hq.out, Hp2.out] at hstep
            have Hs1 : Hid ((stepS 4 3 (k + 1)).1 = b + p2) := by show _ = _; rw [hstep]
            have Hs2 : Hid ((stepS 4 3 (k + 1)).2 = q) := by show _ = _; rw [hstep]
            clear hstep hms
            by_cases h4 : 8 ≤ k
            · have d4 : decide ((8 : Int) ≤ (k : Int)) = true := by rw [decide_eq_true_eq]; omega
              have d4b : decide (8 ≤ k) = true := by rw [decide_eq_true_eq]; omega
              by_cases hr0 : r = 0
              · subst hr0
                have eq : m + 1 = q := by rw [← Hq.out, ← Hm.out]; unfold moreS; rw [if_pos ⟨by omega, Hr.out⟩]
                subst eq
                go_wp2_with fail
                go_roundw
                case rel => exact ⟨k + 1, b + p2, m + 1, by omega, by go_num, by go_num, by go_num, Hs1, Hs2, (by first | rfl | trivial)⟩
                case measure => simp [intOf]; omega
              · have d0r : ((r : Int) == 0) = false := by simp; omega
                have eq : m = q := by rw [← Hq.out, ← Hm.out]; unfold moreS; rw [if_neg (fun h => hr0 (by have := Hr.out; omega))]
                subst eq
                go_wp2_with fail
                go_roundw
                case rel => exact ⟨k + 1, b + p2, m, by omega, by go_num, by go_num, rfl, Hs1, Hs2, (by first | rfl | trivial)⟩
                case measure => simp [intOf]; omega
            · have d4 : decide ((8 : Int) ≤ (k : Int)) = false := by rw [decide_eq_false_iff_not]; omega
              have d4b : decide (8 ≤ k) = false := by rw [decide_eq_false_iff_not]; omega
              have eq : m = q := by rw [← Hq.out, ← Hm.out]; unfold moreS; rw [if_neg (by omega)]
              subst eq
              go_wp2_with fail
              go_roundw
              case rel => exact ⟨k + 1, b + p2, m, by omega, by go_num, by go_num, rfl, Hs1, Hs2, (by first | rfl | trivial)⟩
              case measure => simp [intOf]; omega
          · obtain rfl : k = n := by omega
            have dk : decide ((k : Int) < (k : Int)) = false := by rw [decide_eq_false_iff_not]; omega
            have e1 : b = R1 := by rw [← Hb.out, ← HR1.out]
            subst e1
            by_cases h4 : 8 ≤ k
            · have d4 : decide ((8 : Int) ≤ (k : Int)) = true := by rw [decide_eq_true_eq]; omega
              have d4b : decide (8 ≤ k) = true := by rw [decide_eq_true_eq]; omega
              by_cases hr0 : r = 0
              · subst hr0
                have eq : m + 1 = R2 := by rw [← HR2.out, ← Hm.out]; unfold moreS; rw [if_pos ⟨by omega, Hr.out⟩]
                subst eq
                go_wp2_with fail
                go_ret2
                exact ⟨rfl, 0, rfl⟩
              · have d0r : ((r : Int) == 0) = false := by simp; omega
                have eq : m = R2 := by rw [← HR2.out, ← Hm.out]; unfold moreS; rw [if_neg (fun h => hr0 (by have := Hr.out; omega))]
                subst eq
                go_wp2_with fail
                go_ret2
                exact ⟨rfl, 0, rfl⟩
            · have d4 : decide ((8 : Int) ≤ (k : Int)) = false := by rw [decide_eq_false_iff_not]; omega
              have d4b : decide (8 ≤ k) = false := by rw [decide_eq_false_iff_not]; omega
              have eq : m = R2 := by rw [← HR2.out, ← Hm.out]; unfold moreS; rw [if_neg (by omega)]
              subst eq
              go_wp2_with fail
              go_ret2
              exact ⟨rfl, 0, rfl⟩

end Go.Proofs.Ytjnglahjngiofaa
