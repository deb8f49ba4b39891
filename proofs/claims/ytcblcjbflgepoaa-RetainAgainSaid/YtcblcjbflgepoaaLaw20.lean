/- The laws of layer 20, walked: DaysNumbers, DaysGo, DaysFour. Conditions: an int. -/
import Derived.Test.YtcblcjbflgepoaaRefDate
namespace Go.Proofs.Ytcblcjbflgepoaa
open Go.RowKit
set_option maxRecDepth 100000

theorem ofM_any (D : Nat) (hD : D ≤ 2932896) (w : World) :
    Calls Try.prog 20 #[.int .i64 (D : Int)] w fun e w' => ∃ a b c d : Value, e = .returned (.agg #[.int .i64 (mon D : Int), a, b, c, d]) ∧ Below w.heap.size w w' :=
  (of_any D hD w).mono fun _ _ ⟨he, hb⟩ => ⟨_, _, _, _, he, hb⟩

theorem field_n (W : World) (x : Int) (a b c d : Value) : (Instr.field 30 (.agg #[.int .i64 x, a, b, c, d]) 0).run Try.prog W = .ok (.int .i64 x) W := by kernel_rfl

set_option maxHeartbeats 1000000 in
theorem daysNumbers_any (t : Int) (w : World) :
    Calls Try.prog 3 #[.int .i64 t] w fun e w' => e = .returned (.bool true) ∧ Below w.heap.size w w' := by
  by_cases h : t < 0 ∨ 253402300799 < t
  · have H := Lib.hid h
    clear h
    go_enter Try.func3, Try.ntmps3
    go_wp2_with (first
      | (go_at_call 11; refine (date_no t H.out _).mono ?_; rintro e w' ⟨rfl, rfl⟩)
      | (go_at_call 12; refine (fit_no t H.out _).mono ?_; rintro e w' ⟨rfl, rfl⟩)
      | (go_at_call 13; refine (awake20_any _).mono ?_; rintro e w1 ⟨rfl, hb⟩)
      | (go_at_call 14; refine (day_no t H.out _).mono ?_; rintro e w' ⟨rfl, rfl⟩)
      | (go_at_call 15; refine (week_no t H.out _).mono ?_; rintro e w' ⟨rfl, rfl⟩)
      | (go_at_call 16; refine (month_no t H.out _).mono ?_; rintro e w' ⟨rfl, rfl⟩))
    go_ret
    exact ⟨rfl, hb⟩
  · have h0 : 0 ≤ t := by omega
    have h1 : t ≤ 253402300799 := by omega
    clear h
    obtain ⟨D, HD, hDl⟩ : ∃ D : Nat, Hid ((D : Int) = t / 86400) ∧ D ≤ 2932896 := ⟨(t / 86400).toNat, by show _ = _; omega, by omega⟩
    have Hm := Lib.hid (fun W => month_yes t h0 h1 D HD.out W)
    have Hd := Lib.hid (fun W => date_yes t h0 h1 D HD.out W)
    have Hr := Lib.hid (fun W => refDate_any t h0 h1 D HD.out W)
    have Ho := Lib.hid (fun W => ofM_any D hDl W)
    generalize mon D = m at *
    generalize dateL D = l at *
    have hfd := field_n
    go_enter Try.func3, Try.ntmps3
    go_wp2_with (first
      | (go_at_call 11; refine (Hd.out _).mono ?_; rintro e w1 ⟨rfl, hb1⟩)
      | (go_at_call 12; refine (fit_yes t h0 h1 _).mono ?_; rintro e w' ⟨rfl, rfl⟩)
      | (go_at_call 13; refine (awake20_any _).mono ?_; rintro e w2 ⟨rfl, hb2⟩)
      | (go_at_call 14; refine (day_yes t h0 h1 D HD.out _).mono ?_; rintro e w' ⟨rfl, rfl⟩)
      | (go_at_call 15; refine (week_yes t h0 h1 D HD.out _).mono ?_; rintro e w' ⟨rfl, rfl⟩)
      | (go_at_call 16; refine (Hm.out _).mono ?_; rintro e w' ⟨rfl, rfl⟩)
      | (go_at_call 18; refine (refDay_any t h0 h1 D HD.out _).mono ?_; rintro e w' ⟨rfl, rfl⟩)
      | (go_at_call 19; refine (refWeek_any t h0 h1 D HD.out _).mono ?_; rintro e w' ⟨rfl, rfl⟩)
      | (go_at_call 17; refine (Hr.out _).mono ?_; rintro e w3 ⟨rfl, hb3⟩)
      | (go_at_call 20; refine (Ho.out _).mono ?_; rintro e w4 ⟨a, b, c, d, rfl, hb4⟩))
    go_ret
    exact ⟨rfl, bthen (bthen (bthen hb1 hb2) hb3) hb4⟩

theorem dayI (t : Int) (h0 : 0 ≤ t) (h1 : t ≤ 253402300799) (w : World) :
    Calls Try.prog 14 #[.int .i64 t] w fun e w' => e = .returned (.int .i64 (t / 86400)) ∧ w = w' :=
  (day_yes t h0 h1 (t / 86400).toNat (by omega) w).mono fun _ _ ⟨he, hw⟩ => ⟨by rw [he]; exact ret_int (by omega), hw⟩
theorem weekI (t : Int) (h0 : 0 ≤ t) (h1 : t ≤ 253402300799) (w : World) :
    Calls Try.prog 15 #[.int .i64 t] w fun e w' => e = .returned (.int .i64 ((t / 86400 + 3) / 7)) ∧ w = w' :=
  (week_yes t h0 h1 (t / 86400).toNat (by omega) w).mono fun _ _ ⟨he, hw⟩ => ⟨by rw [he]; exact ret_int (by omega), hw⟩
theorem monthI (t : Int) (h0 : 0 ≤ t) (h1 : t ≤ 253402300799) (w : World) :
    Calls Try.prog 16 #[.int .i64 t] w fun e w' => e = .returned (.int .i64 (mon (t / 86400).toNat : Int)) ∧ w = w' :=
  month_yes t h0 h1 (t / 86400).toNat (by omega) w
theorem slice_text (W : World) (Y M E : Nat) : (Instr.slice 9 (.string ⟨(dtext Y M E).toArray⟩) (some (.int .i64 4)) none none).run Try.prog W = .ok (.string ⟨#[45, dg M 1, dg M 0, 45, dg E 1, dg E 0]⟩) W := by
  rw [run_slice_string_from_if _ _ _ _ _ Try.underlying9]
  rfl

set_option maxHeartbeats 2000000 in
theorem daysFour_any (t : Int) (hlo : -9223372036854775808 ≤ t) (hhi : t ≤ 9223372036854775807) (w : World) :
    Calls Try.prog 6 #[.int .i64 t] w fun e w' => e = .returned (.bool true) ∧ Below w.heap.size w w' := by
  by_cases h : t < 0
  · go_enter Try.func6, Try.ntmps6
    go_wp2_with (go_at_call 13; refine (awake20_any _).mono ?_; rintro e w1 ⟨rfl, hb⟩)
    go_ret
    exact ⟨rfl, hb⟩
  by_cases h2 : 240779519999 < t
  · have hf : decide (t < 0) = false := by simp; omega
    go_enter Try.func6, Try.ntmps6
    go_wp2_with (go_at_call 13; refine (awake20_any _).mono ?_; rintro e w1 ⟨rfl, hb⟩)
    go_ret
    exact ⟨rfl, hb⟩
  have h0 : 0 ≤ t := by omega
  have h1 : t ≤ 240779519999 := by omega
  clear h h2
  obtain ⟨D, HD, hDl⟩ : ∃ D : Nat, Hid ((D : Int) = t / 86400) ∧ D ≤ 2786799 := ⟨(t / 86400).toNat, by show _ = _; omega, by omega⟩
  have HE : Hid (((D + 146097 : Nat) : Int) = (t + 12622780800) / 86400) := by show _ = _; have := HD.out; omega
  have hm1 := fun W => month_yes t h0 (by omega) D HD.out W
  have hd1 := fun W => date_yes t h0 (by omega) D HD.out W
  have hm2 := fun W => month_yes (t + 12622780800) (by omega) (by omega) _ HE.out W
  have hd2 := fun W => date_yes (t + 12622780800) (by omega) (by omega) _ HE.out W
  have hml := mon_lt (show D ≤ 2932896 by omega)
  have hyl := y_lt (show D + 146097 ≤ 2932896 by omega)
  rw [mon_4800] at hm2 hyl
  have hdl : dateL (D + 146097) = dtext (1970 + mon D / 12 + 400) (mon D % 12 + 1) (dom D + 1) := by
    unfold dateL
    rw [mon_4800, dom_400, show (mon D + 4800) / 12 = mon D / 12 + 400 by omega, show (mon D + 4800) % 12 = mon D % 12 by omega, Nat.add_assoc]
  have hdl1 : dateL D = dtext (1970 + mon D / 12) (mon D % 12 + 1) (dom D + 1) := rfl
  rw [hdl] at hd2
  rw [hdl1] at hd1
  have Hm1 := Lib.hid hm1
  have Hm2 := Lib.hid hm2
  have Hd1 := Lib.hid hd1
  have Hd2 := Lib.hid hd2
  obtain ⟨sa, Hsa⟩ : ∃ sa : ByteArray, Hid ((⟨(dtext (1970 + mon D / 12) (mon D % 12 + 1) (dom D + 1)).toArray⟩ : ByteArray) = sa) := ⟨_, rfl⟩
  obtain ⟨sb, Hsb⟩ : ∃ sb : ByteArray, Hid ((⟨(dtext (1970 + mon D / 12 + 400) (mon D % 12 + 1) (dom D + 1)).toArray⟩ : ByteArray) = sb) := ⟨_, rfl⟩
  obtain ⟨sc, Hsc⟩ : ∃ sc : ByteArray, Hid ((⟨#[45, dg (mon D % 12 + 1) 1, dg (mon D % 12 + 1) 0, 45, dg (dom D + 1) 1, dg (dom D + 1) 0]⟩ : ByteArray) = sc) := ⟨_, rfl⟩
  have ha := fun W => slice_text W (1970 + mon D / 12) (mon D % 12 + 1) (dom D + 1)
  have hb := fun W => slice_text W (1970 + mon D / 12 + 400) (mon D % 12 + 1) (dom D + 1)
  simp only [Hsa.out, Hsc.out] at ha
  simp only [Hsb.out, Hsc.out] at hb
  have hsa : sa.size = 10 := by rw [← Hsa.out]; rfl
  have hsb : sb.size = 10 := by rw [← Hsb.out]; rfl
  rw [Hsa.out] at Hd1
  rw [Hsb.out] at Hd2
  obtain ⟨u, Hu⟩ : ∃ u, Hid (t + 12622780800 = u) := ⟨_, rfl⟩
  have hu0 : 0 ≤ u := by have := Hu.out; omega
  have hu1 : u ≤ 253402300799 := by have := Hu.out; omega
  have ht1 : t ≤ 253402300799 := by omega
  obtain ⟨d1, Hd⟩ : ∃ d : Int, Hid (t / 86400 = d) := ⟨_, rfl⟩
  obtain ⟨d2, He⟩ : ∃ d : Int, Hid (u / 86400 = d) := ⟨_, rfl⟩
  have hd21 : d2 = d1 + 146097 ∧ 0 ≤ d1 ∧ d1 ≤ 2932896 := by have := Hu.out; have := Hd.out; have := He.out; omega
  obtain ⟨x1, Hx1⟩ : ∃ x : Int, Hid ((d1 + 3) / 7 = x) := ⟨_, rfl⟩
  obtain ⟨x2, Hx2⟩ : ∃ x : Int, Hid ((d2 + 3) / 7 = x) := ⟨_, rfl⟩
  obtain ⟨m1, Hm1'⟩ : ∃ x : Int, Hid ((mon d1.toNat : Int) = x) := ⟨_, rfl⟩
  obtain ⟨m2, Hm2'⟩ : ∃ x : Int, Hid ((mon d2.toNat : Int) = x) := ⟨_, rfl⟩
  have q1 : IntKind.i64.wrap (d1 + 146097) = d2 := by rw [hd21.1]; exact IntWalk.i64_in _ (by omega)
  have q2 : IntKind.i64.wrap (x1 + 20871) = x2 := by
    have := Hx1.out; have := Hx2.out
    rw [show x2 = x1 + 20871 by omega]; exact IntWalk.i64_in _ (by omega)
  have q3 : IntKind.i64.wrap (m1 + 4800) = m2 := by
    have e1 := Hm1'.out; have e2 := Hm2'.out
    rw [show d2.toNat = d1.toNat + 146097 by omega, mon_4800] at e2
    have := mon_lt (D := d1.toNat) (by omega)
    rw [show m2 = m1 + 4800 by omega]; exact IntWalk.i64_in _ (by omega)
  have cd1 := fun W => dayI t h0 ht1 W
  have cd2 := fun W => dayI u hu0 hu1 W
  have cw1 := fun W => weekI t h0 ht1 W
  have cw2 := fun W => weekI u hu0 hu1 W
  have cm1 := fun W => monthI t h0 ht1 W
  have cm2 := fun W => monthI u hu0 hu1 W
  rw [Hd.out] at cd1 cw1 cm1
  rw [He.out] at cd2 cw2 cm2
  rw [Hx1.out] at cw1
  rw [Hx2.out] at cw2
  rw [Hm1'.out] at cm1
  rw [Hm2'.out] at cm2
  have Cd1 := Lib.hid cd1
  have Cd2 := Lib.hid cd2
  have Cw1 := Lib.hid cw1
  have Cw2 := Lib.hid cw2
  have Cm1 := Lib.hid cm1
  have Cm2 := Lib.hid cm2
  have Q := Lib.hid (show _ ∧ _ ∧ _ from ⟨q1, q2, q3⟩)
  clear q1 q2 q3 cd1 cd2 cw1 cw2 cm1 cm2 hd21 Hd He Hx1 Hx2 Hm1' Hm2' Hm1 Hm2 HE HD hml hyl hu0 hu1 ht1 hdl hdl1 hm1 hm2 hd1 hd2
  have Hh1 := Lib.hid h1
  go_enter Try.func6, Try.ntmps6
  go_wp2_with fail
  refine (Hd1.out _).mono ?_
  rintro e w1 ⟨rfl, hb1⟩
  go_wp2_with fail
  refine (Hd2.out _).mono ?_
  rintro e w2 ⟨rfl, hb2⟩
  go_wp2_with fail
  rw [Hu.out]
  have hbw := bthen hb1 hb2
  have hbd := hbw.drew
  have q := Q.out
  obtain ⟨q1, q2, q3⟩ := q
  clear hlo hhi h0 h1 Hd1 Hd2 Hsa Hsb Hsc Hu hb1 hb2 Q Hh1 hDl
  go_region_held3 (fun W => Below w.heap.size w W)
    (first | go_keep | exact bthen (by assumption) (by assumption))
    (first
      | (go_at_call 13; refine (awake20_any _).mono ?_; rintro e w' ⟨rfl, hbt⟩)
      | (go_at_call 14; (with_reducible refine (Cd1.out _).mono ?_); rintro e w' ⟨rfl, rfl⟩)
      | (go_at_call 14; (with_reducible refine (Cd2.out _).mono ?_); rintro e w' ⟨rfl, rfl⟩)
      | (go_at_call 15; (with_reducible refine (Cw1.out _).mono ?_); rintro e w' ⟨rfl, rfl⟩)
      | (go_at_call 15; (with_reducible refine (Cw2.out _).mono ?_); rintro e w' ⟨rfl, rfl⟩)
      | (go_at_call 16; (with_reducible refine (Cm1.out _).mono ?_); rintro e w' ⟨rfl, rfl⟩)
      | (go_at_call 16; (with_reducible refine (Cm2.out _).mono ?_); rintro e w' ⟨rfl, rfl⟩))
  all_goals
    rename_i hh
    go_wp2_with fail
    go_ret
    exact ⟨rfl, hh⟩
end Go.Proofs.Ytcblcjbflgepoaa
