/- The package days, but for Date, and the document's answer for it. Conditions: seconds up to the year 9999. -/
import Derived.Test.YtcblcjbflgepoaaBase
import Derived.Test.YtcblcjbflgepoaaCal
namespace Go.Proofs.Ytcblcjbflgepoaa
open Go.RowKit
set_option maxRecDepth 100000

theorem second_yes (t : Int) (h0 : 0 ≤ t) (h1 : t ≤ 253402300799) (w : World) :
    Calls Try.prog 28 #[.int .i64 t] w fun e w' => e = .returned (.bool true) ∧ w = w' := by
  go_enter Try.func28, Try.ntmps28
  go_wp2
  go_ret
  exact ⟨rfl, rfl⟩
theorem second_no (t : Int) (h : t < 0 ∨ 253402300799 < t) (w : World) :
    Calls Try.prog 28 #[.int .i64 t] w fun e w' => e = .returned (.bool false) ∧ w = w' := by
  rcases h with h | h
  · go_enter Try.func28, Try.ntmps28
    go_wp2
    go_ret
    exact ⟨rfl, rfl⟩
  · have h0 : 0 ≤ t := by omega
    have hd : decide (t ≤ 253402300799) = false := by simp; omega
    go_enter Try.func28, Try.ntmps28
    go_wp2
    go_ret
    exact ⟨rfl, rfl⟩
theorem fit_yes (t : Int) (h0 : 0 ≤ t) (h1 : t ≤ 253402300799) (w : World) :
    Calls Try.prog 12 #[.int .i64 t] w fun e w' => e = .returned (.bool true) ∧ w = w' := by
  go_enter Try.func12, Try.ntmps12
  go_wp2
  go_ret
  exact ⟨rfl, rfl⟩
theorem fit_no (t : Int) (h : t < 0 ∨ 253402300799 < t) (w : World) :
    Calls Try.prog 12 #[.int .i64 t] w fun e w' => e = .returned (.bool false) ∧ w = w' := by
  rcases h with h | h
  · go_enter Try.func12, Try.ntmps12
    go_wp2
    go_ret
    exact ⟨rfl, rfl⟩
  · have h0 : 0 ≤ t := by omega
    have hd : decide (t ≤ 253402300799) = false := by simp; omega
    go_enter Try.func12, Try.ntmps12
    go_wp2
    go_ret
    exact ⟨rfl, rfl⟩

/-- Day: of a second that is one. -/
theorem day_yes (t : Int) (h0 : 0 ≤ t) (h1 : t ≤ 253402300799) (D : Nat) (hD : (D : Int) = t / 86400) (w : World) :
    Calls Try.prog 14 #[.int .i64 t] w fun e w' => e = .returned (.int .i64 (D : Int)) ∧ w = w' := by
  have H := Lib.hid hD
  clear hD
  go_enter Try.func14, Try.ntmps14
  go_wp2_with (refine (second_yes _ h0 h1 _).mono ?_; rintro e w' ⟨rfl, rfl⟩)
  go_ret
  exact ⟨ret_int H.out.symm, rfl⟩
theorem day_no (t : Int) (h : t < 0 ∨ 253402300799 < t) (w : World) :
    Calls Try.prog 14 #[.int .i64 t] w fun e w' => e = .returned (.int .i64 (-1)) ∧ w = w' := by
  go_enter Try.func14, Try.ntmps14
  go_wp2_with (refine (second_no _ h _).mono ?_; rintro e w' ⟨rfl, rfl⟩)
  go_ret
  exact ⟨rfl, rfl⟩
theorem week_yes (t : Int) (h0 : 0 ≤ t) (h1 : t ≤ 253402300799) (D : Nat) (hD : (D : Int) = t / 86400) (w : World) :
    Calls Try.prog 15 #[.int .i64 t] w fun e w' => e = .returned (.int .i64 (((D + 3) / 7 : Nat) : Int)) ∧ w = w' := by
  have hDl : D ≤ 2932896 := by omega
  have H := Lib.hid hD
  clear hD
  go_enter Try.func15, Try.ntmps15
  go_wp2_with (first | (go_at_call 28; refine (second_yes _ h0 h1 _).mono ?_; rintro e w' ⟨rfl, rfl⟩) | (go_at_call 14; refine (day_yes _ h0 h1 D H.out _).mono ?_; rintro e w' ⟨rfl, rfl⟩))
  go_ret
  exact ⟨ret_int (by omega), rfl⟩
theorem week_no (t : Int) (h : t < 0 ∨ 253402300799 < t) (w : World) :
    Calls Try.prog 15 #[.int .i64 t] w fun e w' => e = .returned (.int .i64 (-1)) ∧ w = w' := by
  go_enter Try.func15, Try.ntmps15
  go_wp2_with (refine (second_no _ h _).mono ?_; rintro e w' ⟨rfl, rfl⟩)
  go_ret
  exact ⟨rfl, rfl⟩

theorem ret_bool {a b : Bool} (h : a = b) : Ending.returned (.bool a) = .returned (.bool b) := by rw [h]

theorem leap_any (y : Nat) (h : y < 1000000) (w : World) :
    Calls Try.prog 35 #[.int .i64 (y : Int)] w fun e w' => e = .returned (.bool (leapN y)) ∧ w = w' := by
  by_cases h4 : y % 4 = 0
  · by_cases h100 : y % 100 = 0
    · by_cases h400 : y % 400 = 0
      · have e4 : ((y : Int) % 4 == 0) = true := by simp; omega
        have e100 : ((y : Int) % 100 != 0) = false := by simp; omega
        have e400 : ((y : Int) % 400 == 0) = true := by simp; omega
        have H : Hid (leapN y = true) := by show _ = _; unfold leapN; simp [h4, h400]
        clear h4 h100 h400
        go_enter Try.func35, Try.ntmps35
        go_wp2
        go_ret
        exact ⟨ret_bool H.out.symm, rfl⟩
      · have e4 : ((y : Int) % 4 == 0) = true := by simp; omega
        have e100 : ((y : Int) % 100 != 0) = false := by simp; omega
        have e400 : ((y : Int) % 400 == 0) = false := by simp; omega
        have H : Hid (leapN y = false) := by show _ = _; unfold leapN; simp [h100, h400]
        clear h4 h100 h400
        go_enter Try.func35, Try.ntmps35
        go_wp2
        go_ret
        exact ⟨ret_bool H.out.symm, rfl⟩
    · have e4 : ((y : Int) % 4 == 0) = true := by simp; omega
      have e100 : ((y : Int) % 100 != 0) = true := by simp; omega
      have H : Hid (leapN y = true) := by show _ = _; unfold leapN; simp [h4, h100]
      clear h4 h100
      go_enter Try.func35, Try.ntmps35
      go_wp2
      go_ret
      exact ⟨ret_bool H.out.symm, rfl⟩
  · have e4 : ((y : Int) % 4 == 0) = false := by simp; omega
    have H : Hid (leapN y = false) := by show _ = _; unfold leapN; simp [h4]
    clear h4
    go_enter Try.func35, Try.ntmps35
    go_wp2
    go_ret
    exact ⟨ret_bool H.out.symm, rfl⟩

theorem length_any (y k : Nat) (h : y < 1000000) (hk : k < 12) (w : World) :
    Calls Try.prog 36 #[.int .i64 (y : Int), .int .i64 (k : Int)] w fun e w' => e = .returned (.int .i64 (lenM y k : Int)) ∧ w = w' := by
  rcases show k = 1 ∨ (k ≠ 1 ∧ (k = 3 ∨ k = 5 ∨ k = 8 ∨ k = 10)) ∨ (k = 0 ∨ k = 2 ∨ k = 4 ∨ k = 6 ∨ k = 7 ∨ k = 9 ∨ k = 11) by omega with rfl | ⟨_, hk⟩ | hk
  · cases hl : leapN y
    · have H : Hid (lenM y 1 = 28) := by show _ = _; unfold lenM; simp [hl]
      have Hl := Lib.hid hl
      clear hl
      go_enter Try.func36, Try.ntmps36
      go_wp2_with (refine (leap_any _ h _).mono ?_; rw [Hl.out]; rintro e w' ⟨rfl, rfl⟩)
      go_ret
      exact ⟨ret_int (by rw [H.out]; rfl), rfl⟩
    · have H : Hid (lenM y 1 = 29) := by show _ = _; unfold lenM; simp [hl]
      have Hl := Lib.hid hl
      clear hl
      go_enter Try.func36, Try.ntmps36
      go_wp2_with (refine (leap_any _ h _).mono ?_; rw [Hl.out]; rintro e w' ⟨rfl, rfl⟩)
      go_ret
      exact ⟨ret_int (by rw [H.out]; rfl), rfl⟩
  · rcases hk with rfl | rfl | rfl | rfl
    all_goals
      go_enter Try.func36, Try.ntmps36
      go_wp2
      go_ret
      exact ⟨ret_int (by unfold lenM; simp), rfl⟩
  · rcases hk with rfl | rfl | rfl | rfl | rfl | rfl | rfl
    all_goals
      go_enter Try.func36, Try.ntmps36
      go_wp2
      go_ret
      exact ⟨ret_int (by unfold lenM; simp), rfl⟩

theorem mo_cyc (q : Nat) : mo (12 * (400 * q)) = 719528 + 146097 * q := by
  induction q with
  | zero => decide
  | succ q ih => rw [show 12 * (400 * (q + 1)) = 12 * (400 * q) + 4800 by omega, mo_4800, ih]; omega

set_option maxHeartbeats 1000000 in
theorem date_any (t : Int) (h0 : 0 ≤ t) (h1 : t ≤ 253402300799) (D : Nat) (hD : (D : Int) = t / 86400) (w : World) :
    Calls Try.prog 29 #[.int .i64 t] w fun e w' => e = .returned (.tuple #[.int .i64 ((1970 + mon D / 12 : Nat) : Int), .int .i64 ((mon D % 12 : Nat) : Int), .int .i64 (dom D : Int)]) ∧ w = w' := by
  have hDl : D ≤ 2932896 := by omega
  have hDn : t / 86400 = (D : Int) := by omega
  clear hD
  go_enter Try.func29, Try.ntmps29
  go_wp2_with fail
  have HD := Lib.hid hDn
  clear hDn
  go_loop [5, 6, 8] (fun d y c => ∃ k : Nat, k ≤ D / 146097 ∧ c = .int .i64 (k : Int) ∧ d = .int .i64 ((D % 146097 + 146097 * k : Nat) : Int) ∧ y = .int .i64 ((1970 + 400 * (D / 146097 - k) : Nat) : Int))
    (fun _ _ c => (intOf c).toNat)
  case atStart => exact ⟨D / 146097, Nat.le_refl _, by first | rfl | (congr 1; have := HD.out; omega), by congr 1; have := HD.out; omega, by congr 1; omega⟩
  case round =>
    obtain ⟨k, hk, rfl, rfl, rfl⟩ := hrel
    obtain ⟨a, Ha, ha⟩ : ∃ a, Hid (D % 146097 + 146097 * k = a) ∧ a ≤ 2932896 := ⟨_, rfl, by omega⟩
    obtain ⟨b, Hb, hb⟩ : ∃ b, Hid (1970 + 400 * (D / 146097 - k) = b) ∧ b ≤ 10000 := ⟨_, rfl, by omega⟩
    rw [Ha.out, Hb.out]
    by_cases hk0 : 0 < k
    · go_wp2_with fail
      go_round
      case rel => exact ⟨k - 1, by omega, by congr 1; omega, by have := Ha.out; congr 1; omega, by have := Hb.out; congr 1; omega⟩
      case measure => simp [intOf]; omega
    · obtain rfl : k = 0 := by omega
      go_wp2_with fail
      go_loop [5, 6, 9] (fun d y _ => ∃ Y x : Nat, 1970 ≤ Y ∧ Y ≤ 1000000 ∧ Hid (mo (12 * (Y - 1970)) + x = D + 719528) ∧ d = .int .i64 (x : Int) ∧ y = .int .i64 (Y : Int))
        (fun d _ _ => (intOf d).toNat)
      case atStart =>
        refine ⟨b, a, by have := Hb.out; omega, by omega, ?_, rfl, rfl⟩
        have e1 := Ha.out
        have e2 := Hb.out
        show _ = _
        rw [show b - 1970 = 400 * (D / 146097) by omega, mo_cyc]
        omega
      case round =>
        clear Ha Hb ha hb
        obtain ⟨Y, x, hY, hY2, Hx, rfl, rfl⟩ := hrel
        have hn := mo_next (Y - 1970)
        rw [show 1970 + (Y - 1970) = Y by omega] at hn
        have hgr := mo_le 0 (12 * (Y - 1970))
        rw [Nat.zero_add, mo_zero] at hgr
        have hYs : Y < 200000 := by have := Hx.out; omega
        have hxl : x ≤ 2932896 := by have := Hx.out; omega
        have Hn := Lib.hid hn
        clear hn hgr
        cases hl : leapN Y
        all_goals
          have Hl := Lib.hid hl
          clear hl
          have hle := Lib.hid (show lenY Y = if leapN Y then 366 else 365 from rfl)
          rw [Hl.out] at hle
          simp only [if_true, if_false, Bool.false_eq_true] at hle
          by_cases hx : (x : Int) < lenY Y
          · have hx' := hx
            rw [hle.out] at hx
            simp at hx
            clear hx'
            go_wp2_with (go_at_call 35; refine (leap_any Y (by omega) _).mono ?_; rw [Hl.out]; rintro e w' ⟨rfl, rfl⟩)
            go_loop [5, 7] (fun d m => ∃ z k : Nat, k ≤ 11 ∧ Hid (mo (12 * (Y - 1970) + k) + z = D + 719528) ∧ d = .int .i64 (z : Int) ∧ m = .int .i64 (k : Int))
              (fun d _ => (intOf d).toNat)
            case atStart => exact ⟨x, 0, by omega, Hx, rfl, rfl⟩
            case round =>
              obtain ⟨z, k, hk, Hz, rfl, rfl⟩ := hrel
              have hm1 := mo_succ (12 * (Y - 1970) + k)
              rw [show (12 * (Y - 1970) + k) / 12 = Y - 1970 by omega, show (12 * (Y - 1970) + k) % 12 = k by omega, show 1970 + (Y - 1970) = Y by omega] at hm1
              have hml := mo_mono (show 12 * (Y - 1970) ≤ 12 * (Y - 1970) + k by omega)
              have hzl : z ≤ 400 := by have := Hz.out; have := Hx.out; omega
              have hlg := lenM_ge Y k
              have hll := lenM_le Y k
              have Hm1 := Lib.hid hm1
              clear hm1 hml
              have Hlt : lenM Y k ≤ z → k + 1 ≤ 11 := by
                intro hz
                rcases Nat.lt_or_ge k 11 with h | h
                · omega
                · obtain rfl : k = 11 := by omega
                  have h3 := Hm1.out
                  have h4 := Hz.out
                  have h5 := Hn.out
                  have h6 := Hx.out
                  rw [show 12 * (Y - 1970 + 1) = 12 * (Y - 1970) + 11 + 1 by omega] at h5
                  have h7 := hle.out
                  omega
              generalize hL : lenM Y k = L at *
              have HL := Lib.hid hL
              clear hL
              by_cases hz : L ≤ z
              · have hk2 := Hlt hz
                clear Hlt
                go_wp2_with (go_at_call 36; refine (length_any Y k (by omega) (by omega) _).mono ?_; rw [HL.out]; rintro e w' ⟨rfl, rfl⟩)
                go_round
                case rel => exact ⟨z - L, k + 1, hk2, by have h3 := Hm1.out; have h4 := Hz.out; show _ = _; rw [← Nat.add_assoc]; omega, by congr 1; omega, by go_num⟩
                case measure => simp [intOf]; omega
              · clear Hlt
                go_wp2_with (go_at_call 36; refine (length_any Y k (by omega) (by omega) _).mono ?_; rw [HL.out]; rintro e w' ⟨rfl, rfl⟩)
                go_ret3
                have hd := dom_is (D := D) (m := 12 * (Y - 1970) + k) (d := z) Hz.out (by rw [show (12 * (Y - 1970) + k) / 12 = Y - 1970 by omega, show (12 * (Y - 1970) + k) % 12 = k by omega, show 1970 + (Y - 1970) = Y by omega, HL.out]; omega)
                refine ⟨?_, rfl⟩
                rw [hd.1, hd.2, show (12 * (Y - 1970) + k) / 12 = Y - 1970 by omega, show (12 * (Y - 1970) + k) % 12 = k by omega, show 1970 + (Y - 1970) = Y by omega]
                rfl
          · have hx' : lenY Y ≤ x := by omega
            rw [hle.out] at hx
            simp at hx
            go_wp2_with (go_at_call 35; refine (leap_any Y (by omega) _).mono ?_; rw [Hl.out]; rintro e w' ⟨rfl, rfl⟩)
            go_round
            case rel => exact ⟨Y + 1, x - lenY Y, by omega, by omega, by have h3 := Hn.out; have h4 := Hx.out; show _ = _; rw [show Y + 1 - 1970 = Y - 1970 + 1 by omega, h3]; omega, by have h5 := hle.out; congr 1; omega, by go_num⟩
            case measure => simp [intOf]; omega

theorem month_yes (t : Int) (h0 : 0 ≤ t) (h1 : t ≤ 253402300799) (D : Nat) (hD : (D : Int) = t / 86400) (w : World) :
    Calls Try.prog 16 #[.int .i64 t] w fun e w' => e = .returned (.int .i64 (mon D : Int)) ∧ w = w' := by
  have hm := mon_lt (show D ≤ 2932896 by omega)
  have H := Lib.hid hD
  clear hD
  have hq : 1970 + mon D / 12 ≤ 10000 := by omega
  have hq0 : 1970 ≤ 1970 + mon D / 12 := by omega
  have hr : mon D % 12 < 12 := by omega
  obtain ⟨q, Hq⟩ : ∃ q, Hid (1970 + mon D / 12 = q) := ⟨_, rfl⟩
  obtain ⟨r, Hr⟩ : ∃ r, Hid (mon D % 12 = r) := ⟨_, rfl⟩
  rw [Hq.out] at hq hq0
  rw [Hr.out] at hr
  go_enter Try.func16, Try.ntmps16
  go_wp2_with (first | (go_at_call 28; refine (second_yes _ h0 h1 _).mono ?_; rintro e w' ⟨rfl, rfl⟩) | (go_at_call 29; refine (date_any _ h0 h1 D H.out _).mono ?_; rw [Hq.out, Hr.out]; rintro e w' ⟨rfl, rfl⟩))
  go_ret
  exact ⟨ret_int (by have h2 := Hq.out; have h3 := Hr.out; omega), rfl⟩
theorem month_no (t : Int) (h : t < 0 ∨ 253402300799 < t) (w : World) :
    Calls Try.prog 16 #[.int .i64 t] w fun e w' => e = .returned (.int .i64 (-1)) ∧ w = w' := by
  go_enter Try.func16, Try.ntmps16
  go_wp2_with (refine (second_no _ h _).mono ?_; rintro e w' ⟨rfl, rfl⟩)
  go_ret
  exact ⟨rfl, rfl⟩

theorem refDay_any (t : Int) (h0 : 0 ≤ t) (h1 : t ≤ 253402300799) (D : Nat) (hD : (D : Int) = t / 86400) (w : World) :
    Calls Try.prog 18 #[.int .i64 t] w fun e w' => e = .returned (.int .i64 (D : Int)) ∧ w = w' := by
  have H := Lib.hid hD
  clear hD
  go_enter Try.func18, Try.ntmps18
  go_wp2_with fail
  go_ret
  exact ⟨ret_int (by have := H.out; omega), rfl⟩
theorem refWeek_any (t : Int) (h0 : 0 ≤ t) (h1 : t ≤ 253402300799) (D : Nat) (hD : (D : Int) = t / 86400) (w : World) :
    Calls Try.prog 19 #[.int .i64 t] w fun e w' => e = .returned (.int .i64 (((D + 3) / 7 : Nat) : Int)) ∧ w = w' := by
  have hDl : D ≤ 2932896 := by omega
  have H := Lib.hid hD
  clear hD
  by_cases h4 : 4 ≤ D
  · go_enter Try.func19, Try.ntmps19
    go_wp2_with (go_at_call 18; refine (refDay_any _ h0 h1 D H.out _).mono ?_; rintro e w' ⟨rfl, rfl⟩)
    go_ret
    exact ⟨ret_int (by omega), rfl⟩
  · go_enter Try.func19, Try.ntmps19
    go_wp2_with (go_at_call 18; refine (refDay_any _ h0 h1 D H.out _).mono ?_; rintro e w' ⟨rfl, rfl⟩)
    go_ret
    exact ⟨ret_int (by omega), rfl⟩
end Go.Proofs.Ytcblcjbflgepoaa
