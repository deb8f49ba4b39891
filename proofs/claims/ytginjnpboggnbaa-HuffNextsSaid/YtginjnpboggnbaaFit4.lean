/- The document's Fit and Code of layer 4. Conditions: none. -/
import Derived.Test.YtginjnpboggnbaaKinds
namespace Go.Proofs.Ytginjnpboggnbaa
open Go.RowKit
set_option maxRecDepth 100000

def onesOf (L : Nat → Nat) (n : Nat) : Nat := cntTo (fun t => decide (L t = 1)) n
theorem ones_succ (L : Nat → Nat) (k : Nat) : onesOf L (k + 1) = onesOf L k + if L k = 1 then 1 else 0 := by
  unfold onesOf
  simp [cntTo]
theorem pt_one (l : Nat) (h0 : 0 < l) (h15 : l ≤ 15) : pt l = 16384 ↔ l = 1 := by
  unfold pt
  rw [if_pos h0]
  constructor
  · intro h
    by_cases e : l = 1
    · exact e
    · have h1 : 2 ^ (15 - l) ≤ 2 ^ 13 := Nat.pow_le_pow_right (by decide) (by omega)
      have h2 : (2 : Nat) ^ 13 = 8192 := by decide
      omega
  · rintro rfl
    decide
theorem fit_inv (L : Nat → Nat) (k : Nat) (h15 : ∀ i, i < k → L i ≤ 15) : (someOf L k = 0 → parts L k = 0 ∧ onesOf L k = 0) ∧ (someOf L k = 1 → (parts L k = 16384 ↔ onesOf L k = 1)) := by
  induction k with
  | zero => exact ⟨fun _ => ⟨rfl, rfl⟩, fun h => by simp [someOf, cntTo] at h⟩
  | succ k ih =>
    obtain ⟨i1, i2⟩ := ih fun i hi => h15 i (by omega)
    rw [some_succ, parts_succ, ones_succ]
    by_cases h0 : 0 < L k
    · rw [if_pos h0]
      refine ⟨fun h => by omega, fun h => ?_⟩
      obtain ⟨j1, j2⟩ := i1 (by omega)
      rw [j1, j2, Nat.zero_add, Nat.zero_add]
      have := pt_one (L k) h0 (h15 k (by omega))
      by_cases e : L k = 1
      · rw [if_pos e]; exact ⟨fun _ => rfl, fun _ => this.2 e⟩
      · rw [if_neg e]; exact ⟨fun h => absurd (this.1 h) e, fun h => by omega⟩
    · have e0 : pt (L k) = 0 := by unfold pt; rw [if_neg h0]
      rw [if_neg h0, e0, if_neg (by omega)]
      exact ⟨i1, i2⟩
theorem fit_iff (L : Nat → Nat) (n : Nat) (h15 : ∀ i, i < n → L i ≤ 15) : Fits (parts L n) (someOf L n) ↔ (someOf L n = 0 ∨ parts L n = 32768 ∨ someOf L n = 1 ∧ onesOf L n = 1) := by
  obtain ⟨h1, h2⟩ := fit_inv L n h15
  unfold Fits
  constructor
  · rintro ⟨_, h | h | ⟨h, h'⟩⟩
    · exact .inr (.inl h)
    · exact .inl h
    · exact .inr (.inr ⟨h, (h2 h).1 h'⟩)
  · rintro (h | h | ⟨h, h'⟩)
    · exact ⟨by rw [(h1 h).1]; omega, .inr (.inl h)⟩
    · exact ⟨by omega, .inl h⟩
    · have := (h2 h).2 h'
      exact ⟨by omega, .inr (.inr ⟨h, this⟩)⟩
theorem half_pow (i : Nat) (h : i < 15) : 2 ^ (15 - i) / 2 = 2 ^ (15 - (i + 1)) := by
  rw [show 15 - i = 15 - (i + 1) + 1 by omega, Nat.pow_succ, Nat.mul_div_cancel _ (by decide)]

set_option maxHeartbeats 8000000 in
theorem fit_any (a : Option Addr) (n cap : Nat) (m : Nat → Int) (hn : n ≤ 1000000) (k : Nat) (hk : KindOf n m k) (w : World) (hr : IRow w a n m) :
    Calls Try.prog 34 #[.slice a n cap] w fun e w' => e = .returned (.int .i64 (k : Int)) ∧ w' = w := by
  have Hr := Lib.hid hr
  have Hk := Lib.hid hk
  clear hr hk
  by_cases h320 : 320 < n
  · have d0 : decide ((320 : Int) < (n : Int)) = true := by rw [decide_eq_true_eq]; omega
    obtain rfl : k = 2 := by
      rcases Hk.out with ⟨h, _⟩ | ⟨_, h, _⟩ | ⟨_, h, _⟩ | ⟨_, h, _⟩ <;> omega
    go_enter Try.func34, Try.ntmps34
    go_wp2_with fail
    go_ret
    exact ⟨rfl, rfl⟩
  · have d0 : decide ((320 : Int) < (n : Int)) = false := by rw [decide_eq_false_iff_not]; omega
    go_enter Try.func34, Try.ntmps34
    go_wp2_with fail
    go_loopw [17] (fun i_ wr => ∃ i : Nat, i ≤ n ∧ i_ = .int .i64 (i : Int) ∧ Hid (∀ j, j < i → 0 ≤ m j ∧ m j ≤ 15) ∧ Hid (wr = w)) (fun i _ => n - (intOf i).toNat)
    case atStart => exact ⟨0, by omega, rfl, (fun j hj => by omega), rfl⟩
    case round =>
      obtain ⟨i, hi, rfl, HA, HW⟩ := hrel
      have HRw : Hid (IRow wr a n m) := by show IRow _ _ _ _; rw [HW.out]; exact Hr.out
      by_cases hlt : i < n
      · have d1 : decide ((i : Int) < (n : Int)) = true := by rw [decide_eq_true_eq]; omega
        obtain ⟨b, off, rfl, _, c0⟩ := HRw.out.get i hlt
        obtain ⟨x, Hx⟩ : ∃ R, Hid (m i = R) := ⟨_, Lib.hid (Eq.refl _)⟩
        rw [Hx.out] at c0
        by_cases hx0 : x < 0
        · have d2 : decide (x < 0) = true := by rw [decide_eq_true_eq]; exact hx0
          obtain rfl : k = 1 := by
            rcases Hk.out with ⟨_, h⟩ | ⟨h, _⟩ | ⟨_, _, h, _⟩ | ⟨_, _, h, _⟩
            · omega
            · exact h
            · have := h i hlt; rw [Hx.out] at this; omega
            · have := h i hlt; rw [Hx.out] at this; omega
          go_wp2_with fail
          go_ret
          exact ⟨rfl, HW.out⟩
        · have d2 : decide (x < 0) = false := by rw [decide_eq_false_iff_not]; exact hx0
          by_cases hx1 : 15 < x
          · have d3 : decide (15 < x) = true := by rw [decide_eq_true_eq]; exact hx1
            obtain rfl : k = 1 := by
              rcases Hk.out with ⟨_, h⟩ | ⟨h, _⟩ | ⟨_, _, h, _⟩ | ⟨_, _, h, _⟩
              · omega
              · exact h
              · have := h i hlt; rw [Hx.out] at this; omega
              · have := h i hlt; rw [Hx.out] at this; omega
            go_wp2_with fail
            go_ret
            exact ⟨rfl, HW.out⟩
          · have d3 : decide (15 < x) = false := by rw [decide_eq_false_iff_not]; exact hx1
            have HA2 : Hid (∀ j, j < i + 1 → 0 ≤ m j ∧ m j ≤ 15) := by
              intro j hj
              by_cases e : j = i
              · subst e; rw [Hx.out]; omega
              · exact HA.out j (by omega)
            go_wp2_with fail
            go_roundw
            case rel => exact ⟨i + 1, by omega, by go_num, HA2, HW⟩
            case measure => simp [intOf]; omega
      · obtain rfl : i = n := by omega
        have d1 : decide ((i : Int) < (i : Int)) = false := by rw [decide_eq_false_iff_not]; omega
        obtain ⟨L, HL⟩ : ∃ L, Hid (lens m = L) := ⟨_, Lib.hid (Eq.refl _)⟩
        have HmL : Hid (∀ j, j < i → m j = (L j : Int) ∧ L j ≤ 15) := fun j hj => by
          have := HA.out j hj
          rw [← HL.out]
          unfold lens
          omega
        go_wp2_with fail
        go_loopw [5, 6, 7, 30] (fun p_ s_ o_ i_ wr => ∃ j p s o : Nat, j ≤ i ∧ i_ = .int .i64 (j : Int) ∧ p_ = .int .i64 (p : Int) ∧ s_ = .int .i64 (s : Int) ∧ o_ = .int .i64 (o : Int) ∧ p ≤ 32768 * j ∧ s ≤ j ∧ o ≤ j ∧ Hid (parts L j = p) ∧ Hid (someOf L j = s) ∧ Hid (onesOf L j = o) ∧ Hid (wr = w)) (fun _ _ _ i_ _ => i - (intOf i_).toNat)
        case atStart => exact ⟨0, 0, 0, 0, by omega, rfl, rfl, rfl, rfl, by omega, by omega, by omega, rfl, rfl, rfl, HW⟩
        case round =>
          clear d1
          obtain ⟨j, p, s, o, hj, rfl, rfl, rfl, rfl, hp, hs, ho, Hp, Hs, Ho, HW⟩ := hrel
          have HRw : Hid (IRow wr a i m) := by show IRow _ _ _ _; rw [HW.out]; exact Hr.out
          by_cases hjl : j < i
          · have d1 : decide ((j : Int) < (i : Int)) = true := by rw [decide_eq_true_eq]; omega
            obtain ⟨b, off, rfl, _, c0⟩ := HRw.out.get j hjl
            obtain ⟨e1, hl15⟩ := HmL.out j hjl
            obtain ⟨l, Hl⟩ : ∃ R, Hid (L j = R) := ⟨_, Lib.hid (Eq.refl _)⟩
            rw [e1, Hl.out] at c0
            rw [Hl.out] at hl15
            clear e1
            by_cases hl0 : 0 < l
            · have d2 : decide (0 < (l : Int)) = true := by rw [decide_eq_true_eq]; omega
              obtain ⟨P2, HP2⟩ : ∃ R, Hid (2 ^ (15 - l) = R) := ⟨_, Lib.hid (Eq.refl _)⟩
              have hP2 : P2 ≤ 32768 := by
                rw [← HP2.out]
                exact Nat.le_trans (Nat.pow_le_pow_right (n := 2) (i := 15 - l) (j := 15) (by decide) (by omega)) (by decide)
              have Hp2 : Hid (parts L (j + 1) = p + P2) := by
                show _ = _
                rw [parts_succ, Hp.out, Hl.out]
                unfold pt
                rw [if_pos hl0, HP2.out]
              have Hs2 : Hid (someOf L (j + 1) = s + 1) := by
                show _ = _
                rw [some_succ, Hs.out, Hl.out, if_pos hl0]
              go_wp2_with fail
              go_loopw [10, 11] (fun q_ r_ wr => ∃ q r : Nat, r ≤ l ∧ r_ = .int .i64 (r : Int) ∧ q_ = .int .i64 (q : Int) ∧ q ≤ 32768 ∧ Hid (2 ^ (15 - r) = q) ∧ Hid (wr = w)) (fun _ r _ => l - (intOf r).toNat)
              case atStart => exact ⟨32768, 0, by omega, rfl, rfl, by omega, by show _ = _; decide, HW⟩
              case round =>
                obtain ⟨q, r, hr1, rfl, rfl, hq, Hq, HW3⟩ := hrel
                by_cases hrl : r < l
                · have d3 : decide ((r : Int) < (l : Int)) = true := by rw [decide_eq_true_eq]; omega
                  obtain ⟨q2, Hq2⟩ : ∃ R, Hid (q / 2 = R) := ⟨_, Lib.hid (Eq.refl _)⟩
                  have e1 : (q : Int) / 2 = (q2 : Int) := by have := Hq2.out; omega
                  have e2 : (q : Int).tdiv 2 = (q2 : Int) := by rw [Int.tdiv_eq_ediv_of_nonneg (by omega)]; exact e1
                  have Hq3 : Hid (2 ^ (15 - (r + 1)) = q2) := by
                    show _ = _
                    rw [← half_pow r (by omega), Hq.out, Hq2.out]
                  have hq2 : q2 ≤ 32768 := by have := Hq2.out; omega
                  go_wp2_with fail
                  go_roundw
                  case rel => exact ⟨q2, r + 1, by omega, by go_num, rfl, hq2, Hq3, HW3⟩
                  case measure => simp [intOf]; omega
                · obtain rfl : r = l := by omega
                  have d3 : decide ((r : Int) < (r : Int)) = false := by rw [decide_eq_false_iff_not]; omega
                  obtain rfl : q = P2 := by rw [← Hq.out, HP2.out]
                  by_cases h1 : r = 1
                  · subst h1
                    have Ho2 : Hid (onesOf L (j + 1) = o + 1) := by
                      show _ = _
                      rw [ones_succ, Ho.out, Hl.out, if_pos rfl]
                    go_wp2_with fail
                    go_roundw
                    case rel => exact ⟨j + 1, p + q, s + 1, o + 1, by omega, by go_num, by go_num, by go_num, by go_num, by omega, by omega, by omega, Hp2, Hs2, Ho2, HW3⟩
                    case measure => simp [intOf]; omega
                  · have d4 : ((r : Int) == 1) = false := by simp; omega
                    have Ho2 : Hid (onesOf L (j + 1) = o) := by
                      show _ = _
                      rw [ones_succ, Ho.out, Hl.out, if_neg h1, Nat.add_zero]
                    go_wp2_with fail
                    go_roundw
                    case rel => exact ⟨j + 1, p + q, s + 1, o, by omega, by go_num, by go_num, by go_num, rfl, by omega, by omega, by omega, Hp2, Hs2, Ho2, HW3⟩
                    case measure => simp [intOf]; omega
            · obtain rfl : l = 0 := by omega
              have Hp2 : Hid (parts L (j + 1) = p) := by
                show _ = _
                rw [parts_succ, Hp.out, Hl.out]
                rfl
              have Hs2 : Hid (someOf L (j + 1) = s) := by
                show _ = _
                rw [some_succ, Hs.out, Hl.out]
                rfl
              have Ho2 : Hid (onesOf L (j + 1) = o) := by
                show _ = _
                rw [ones_succ, Ho.out, Hl.out]
                rfl
              go_wp2_with fail
              go_roundw
              case rel => exact ⟨j + 1, p, s, o, by omega, by go_num, rfl, rfl, rfl, by omega, by omega, by omega, Hp2, Hs2, Ho2, HW⟩
              case measure => simp [intOf]; omega
          · obtain rfl : j = i := by omega
            have d1 : decide ((j : Int) < (j : Int)) = false := by rw [decide_eq_false_iff_not]; omega
            have hfit := fit_iff L j (fun t ht => (HmL.out t ht).2)
            rw [Hs.out, Hp.out, Ho.out] at hfit
            have hkk := Hk.out
            unfold KindOf at hkk
            rw [HL.out, Hp.out, Hs.out] at hkk
            have hk04 : (k = 0 ∧ (s = 0 ∨ p = 32768 ∨ s = 1 ∧ o = 1)) ∨ (k = 4 ∧ ¬ (s = 0 ∨ p = 32768 ∨ s = 1 ∧ o = 1)) := by
              rcases hkk with ⟨_, h⟩ | ⟨_, _, t, ht, h⟩ | ⟨h, _, _, h'⟩ | ⟨h, _, _, h'⟩
              · omega
              · exact absurd (HA.out t ht) h
              · exact .inr ⟨h, fun h2 => h' (hfit.2 h2)⟩
              · exact .inl ⟨h, hfit.1 h'⟩
            clear hfit hkk Hk HmL HA HL
            by_cases hs0 : s = 0
            · subst hs0
              obtain rfl : k = 0 := by omega
              clear hk04
              go_wp2_with fail
              go_ret
              exact ⟨rfl, HW.out⟩
            · have f1 : ((s : Int) == 0) = false := by simp; omega
              by_cases hp0 : p = 32768
              · subst hp0
                obtain rfl : k = 0 := by omega
                clear hk04
                go_wp2_with fail
                go_ret
                exact ⟨rfl, HW.out⟩
              · have f2 : ((p : Int) == 32768) = false := by simp; omega
                by_cases hs1 : s = 1
                · subst hs1
                  by_cases ho1 : o = 1
                  · subst ho1
                    obtain rfl : k = 0 := by omega
                    clear hk04
                    go_wp2_with fail
                    go_ret
                    exact ⟨rfl, HW.out⟩
                  · have f3 : ((o : Int) == 1) = false := by simp; omega
                    obtain rfl : k = 4 := by omega
                    clear hk04
                    go_wp2_with fail
                    go_ret
                    exact ⟨rfl, HW.out⟩
                · have f3 : ((s : Int) == 1) = false := by simp; omega
                  obtain rfl : k = 4 := by omega
                  clear hk04
                  go_wp2_with fail
                  go_ret
                  exact ⟨rfl, HW.out⟩
end Go.Proofs.Ytginjnpboggnbaa
