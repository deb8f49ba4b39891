/- HuffLengths: the law's wrong and right. Conditions: none. -/
import Derived.Test.YtahgeeklenojjaaLenX
import Derived.BigQuiet
namespace Go.Proofs.Ytahgeeklenojjaa
open Go.RowKit
set_option maxRecDepth 100000

/-- wrong's number. -/
def WrongOf (n : Nat) (cnt : Nat → Int) (most : Int) (k : Nat) : Prop :=
  (320 < n ∧ k = 2) ∨ (n ≤ 320 ∧ (most < 1 ∨ 15 < most) ∧ k = 1) ∨ (n ≤ 320 ∧ 1 ≤ most ∧ most ≤ 15 ∧ ¬ CntOK cnt n ∧ k = 1) ∨
  (n ≤ 320 ∧ 1 ≤ most ∧ most ≤ 15 ∧ CntOK cnt n ∧ 2 ^ most.toNat < (coinsB cnt n).length ∧ k = 4) ∨
  (n ≤ 320 ∧ 1 ≤ most ∧ most ≤ 15 ∧ CntOK cnt n ∧ (coinsB cnt n).length ≤ 2 ^ most.toNat ∧ k = 0)
theorem wrong_bad (a : Option Addr) (n cap : Nat) (hn : n ≤ 1000000) (most : Int) (h : 320 < n ∨ most < 1 ∨ 15 < most) (w : World) : Calls Try.prog 17 #[.slice a n cap, .int .i64 most] w fun e w' => e = .returned (.int .i64 (if 320 < n then 2 else 1)) ∧ w' = w := by
  by_cases h320 : 320 < n
  · have d0 : decide ((320 : Int) < (n : Int)) = true := by rw [decide_eq_true_eq]; omega
    have d0b : decide (320 < n) = true := by rw [decide_eq_true_eq]; omega
    rw [if_pos h320]
    go_enter Try.func17, Try.ntmps17
    go_wp2_with fail
    go_ret
    exact ⟨rfl, rfl⟩
  · have d0 : decide ((320 : Int) < (n : Int)) = false := by rw [decide_eq_false_iff_not]; omega
    have d0b : decide (320 < n) = false := by rw [decide_eq_false_iff_not]; omega
    rw [if_neg h320]
    by_cases h1 : most < 1
    · have d1 : decide (most < 1) = true := by rw [decide_eq_true_eq]; omega
      clear h
      go_enter Try.func17, Try.ntmps17
      go_wp2_with fail
      go_ret
      exact ⟨rfl, rfl⟩
    · have d1 : decide (most < 1) = false := by rw [decide_eq_false_iff_not]; omega
      have d2 : decide (15 < most) = true := by rw [decide_eq_true_eq]; omega
      clear h
      go_enter Try.func17, Try.ntmps17
      go_wp2_with fail
      go_ret
      exact ⟨rfl, rfl⟩

set_option maxHeartbeats 8000000 in
theorem wrong_good (a : Option Addr) (n cap : Nat) (cnt : Nat → Int) (hn : n ≤ 320) (most : Nat) (hm1 : 1 ≤ most) (hm15 : most ≤ 15) (k : Nat)
    (hk : (¬ CntOK cnt n ∧ k = 1) ∨ (CntOK cnt n ∧ 2 ^ most < (coinsB cnt n).length ∧ k = 4) ∨ (CntOK cnt n ∧ (coinsB cnt n).length ≤ 2 ^ most ∧ k = 0)) (w : World) (hr : IRow w a n cnt) :
    Calls Try.prog 17 #[.slice a n cap, .int .i64 (most : Int)] w fun e w' => e = .returned (.int .i64 (k : Int)) ∧ w' = w := by
  have Hr := Lib.hid hr
  have Hk := Lib.hid hk
  have d0 : decide ((320 : Int) < (n : Int)) = false := by rw [decide_eq_false_iff_not]; omega
  have d0b : decide (320 < n) = false := by rw [decide_eq_false_iff_not]; omega
  have d1 : decide ((most : Int) < 1) = false := by rw [decide_eq_false_iff_not]; omega
  have d1b : decide (most < 1) = false := by rw [decide_eq_false_iff_not]; omega
  have d2 : decide (15 < (most : Int)) = false := by rw [decide_eq_false_iff_not]; omega
  have d2b : decide (15 < most) = false := by rw [decide_eq_false_iff_not]; omega
  clear hr hk
  go_enter Try.func17, Try.ntmps17
  go_wp2_with fail
  go_loopw [5, 19] (fun s_ i_ wr => ∃ i s : Nat, i ≤ n ∧ i_ = .int .i64 (i : Int) ∧ s_ = .int .i64 (s : Int) ∧ s ≤ i ∧ Hid (CntOK cnt i) ∧ Hid ((coinsB cnt i).length = s) ∧ Hid (wr = w)) (fun _ i _ => n - (intOf i).toNat)
  case atStart => exact ⟨0, 0, by omega, rfl, rfl, by omega, (fun j hj => by omega), rfl, rfl⟩
  case round =>
    obtain ⟨i, s, hi, rfl, rfl, hs, HA, HS, HW⟩ := hrel
    have HRw : Hid (IRow wr a n cnt) := by show IRow _ _ _ _; rw [HW.out]; exact Hr.out
    by_cases hlt : i < n
    · have di : decide ((i : Int) < (n : Int)) = true := by rw [decide_eq_true_eq]; omega
      obtain ⟨b, off, rfl, _, c0⟩ := HRw.out.get i hlt
      have hst : (coinsB cnt (i + 1)).length = (coinsB cnt i).length + (if 0 < cnt i then 1 else 0) := by
        rw [cnt_some, cnt_some]
        show _ + (if decide (0 < cnt i) = true then 1 else 0) = _
        by_cases h : 0 < cnt i
        · rw [if_pos h, if_pos (decide_eq_true h)]
        · rw [if_neg h, if_neg (by rw [decide_eq_false h]; decide)]
      obtain ⟨x, Hx⟩ : ∃ R, Hid (cnt i = R) := ⟨_, Lib.hid (Eq.refl _)⟩
      rw [Hx.out] at c0
      rw [Hx.out, HS.out] at hst
      have Hst := Lib.hid hst
      clear hst
      by_cases hx0 : x < 0
      · have f1 : decide (x < 0) = true := by rw [decide_eq_true_eq]; exact hx0
        have hno : ¬ CntOK cnt n := fun h => by have := h i hlt; rw [Hx.out] at this; omega
        obtain rfl : k = 1 := by
          rcases Hk.out with ⟨_, h⟩ | ⟨h, _⟩ | ⟨h, _⟩
          · exact h
          · exact absurd h hno
          · exact absurd h hno
        clear hno
        go_wp2_with fail
        go_ret
        exact ⟨rfl, HW.out⟩
      · have f1 : decide (x < 0) = false := by rw [decide_eq_false_iff_not]; exact hx0
        by_cases hx1 : 1000000 < x
        · have f2 : decide (1000000 < x) = true := by rw [decide_eq_true_eq]; exact hx1
          have hno : ¬ CntOK cnt n := fun h => by have := h i hlt; rw [Hx.out] at this; omega
          obtain rfl : k = 1 := by
            rcases Hk.out with ⟨_, h⟩ | ⟨h, _⟩ | ⟨h, _⟩
            · exact h
            · exact absurd h hno
            · exact absurd h hno
          clear hno
          go_wp2_with fail
          go_ret
          exact ⟨rfl, HW.out⟩
        · have f2 : decide (1000000 < x) = false := by rw [decide_eq_false_iff_not]; exact hx1
          have HA2 : Hid (CntOK cnt (i + 1)) := by
            intro j hj
            by_cases e : j = i
            · subst e; rw [Hx.out]; omega
            · exact HA.out j (by omega)
          by_cases hxp : 0 < x
          · have f3 : decide (0 < x) = true := by rw [decide_eq_true_eq]; exact hxp
            have HS2 : Hid ((coinsB cnt (i + 1)).length = s + 1) := by show _ = _; rw [Hst.out, if_pos hxp]
            go_wp2_with fail
            go_roundw
            case rel => exact ⟨i + 1, s + 1, by omega, by go_num, by go_num, by omega, HA2, HS2, HW⟩
            case measure => simp [intOf]; omega
          · have f3 : decide (0 < x) = false := by rw [decide_eq_false_iff_not]; exact hxp
            have HS2 : Hid ((coinsB cnt (i + 1)).length = s) := by show _ = _; rw [Hst.out, if_neg hxp]; rfl
            go_wp2_with fail
            go_roundw
            case rel => exact ⟨i + 1, s, by omega, by go_num, rfl, by omega, HA2, HS2, HW⟩
            case measure => simp [intOf]; omega
    · obtain rfl : i = n := by omega
      have di : decide ((i : Int) < (i : Int)) = false := by rw [decide_eq_false_iff_not]; omega
      obtain ⟨P, HP⟩ : ∃ R, Hid (2 ^ most = R) := ⟨_, Lib.hid (Eq.refl _)⟩
      have hP : P ≤ 32768 := by
        rw [← HP.out]
        exact Nat.le_trans (Nat.pow_le_pow_right (n := 2) (i := most) (j := 15) (by decide) hm15) (by decide)
      have wP : IntKind.i64.wrap ((2 : Int) ^ most) = (P : Int) := by
        have e : (2 : Int) ^ most = ((2 ^ most : Nat) : Int) := by simp
        rw [e, HP.out, IntKind.wrap_i64]
        omega
      have md : min most 64 = most := by omega
      have hk2 : (s ≤ P ∧ k = 0) ∨ (P < s ∧ k = 4) := by
        rcases Hk.out with ⟨h, _⟩ | ⟨_, h, h2⟩ | ⟨_, h, h2⟩
        · exact absurd HA.out h
        · rw [HP.out, HS.out] at h; exact .inr ⟨h, h2⟩
        · rw [HP.out, HS.out] at h; exact .inl ⟨h, h2⟩
      rcases hk2 with ⟨hsp, rfl⟩ | ⟨hsp, rfl⟩
      · have f1 : decide ((P : Int) < (s : Int)) = false := by rw [decide_eq_false_iff_not]; omega
        have f1b : decide (P < s) = false := by rw [decide_eq_false_iff_not]; omega
        go_wp2_with fail
        go_ret
        exact ⟨rfl, HW.out⟩
      · have f1 : decide ((P : Int) < (s : Int)) = true := by rw [decide_eq_true_eq]; omega
        have f1b : decide (P < s) = true := by rw [decide_eq_true_eq]; omega
        go_wp2_with fail
        go_ret
        exact ⟨rfl, HW.out⟩
theorem wrong_ex (n : Nat) (cnt : Nat → Int) (most : Int) : ∃ k, WrongOf n cnt most k := by
  unfold WrongOf
  by_cases h1 : 320 < n
  · exact ⟨2, .inl ⟨h1, rfl⟩⟩
  · by_cases h2 : most < 1 ∨ 15 < most
    · exact ⟨1, .inr (.inl ⟨by omega, h2, rfl⟩)⟩
    · by_cases h3 : CntOK cnt n
      · by_cases h4 : 2 ^ most.toNat < (coinsB cnt n).length
        · exact ⟨4, .inr (.inr (.inr (.inl ⟨by omega, by omega, by omega, h3, h4, rfl⟩)))⟩
        · exact ⟨0, .inr (.inr (.inr (.inr ⟨by omega, by omega, by omega, h3, Nat.le_of_not_lt h4, rfl⟩)))⟩
      · exact ⟨1, .inr (.inr (.inl ⟨by omega, by omega, by omega, h3, rfl⟩))⟩
theorem wrong_any (a : Option Addr) (n cap : Nat) (cnt : Nat → Int) (hn : n ≤ 1000000) (most : Int) (k : Nat) (hk : WrongOf n cnt most k) (w : World) (hr : IRow w a n cnt) :
    Calls Try.prog 17 #[.slice a n cap, .int .i64 most] w fun e w' => e = .returned (.int .i64 (k : Int)) ∧ w' = w := by
  by_cases h : 320 < n ∨ most < 1 ∨ 15 < most
  · have e : (if 320 < n then 2 else 1 : Int) = (k : Int) := by
      rcases hk with ⟨h1, rfl⟩ | ⟨h1, h2, rfl⟩ | ⟨h1, h2, h3, _⟩ | ⟨h1, h2, h3, _⟩ | ⟨h1, h2, h3, _⟩
      · rw [if_pos h1]; rfl
      · rw [if_neg (by omega)]; rfl
      · omega
      · omega
      · omega
    rw [← e]
    exact wrong_bad a n cap hn most h w
  · obtain ⟨m, rfl⟩ : ∃ m : Nat, most = (m : Int) := ⟨most.toNat, by omega⟩
    refine wrong_good a n cap cnt (by omega) m (by omega) (by omega) k ?_ w hr
    rcases hk with ⟨h1, _⟩ | ⟨h1, h2, _⟩ | ⟨_, _, _, h1, h2⟩ | ⟨_, _, _, h1, h2, h3⟩ | ⟨_, _, _, h1, h2, h3⟩
    · omega
    · omega
    · exact .inl ⟨h1, h2⟩
    · exact .inr (.inl ⟨h1, h2, h3⟩)
    · exact .inr (.inr ⟨h1, h2, h3⟩)
end Go.Proofs.Ytahgeeklenojjaa
