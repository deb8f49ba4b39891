/- DaysGo of layer 20, walked. Conditions: ints. -/
import Derived.Test.YtcblcjbflgepoaaLaw20
namespace Go.Proofs.Ytcblcjbflgepoaa
open Go.RowKit
set_option maxRecDepth 100000


set_option maxHeartbeats 8000000 in
theorem daysGo_any (t u : Int) (hlo : -9223372036854775808 ≤ t) (hhi : t ≤ 9223372036854775807) (w : World) :
    Calls Try.prog 4 #[.int .i64 t, .int .i64 u] w fun e w' => e = .returned (.bool true) ∧ Below w.heap.size w w' := by
  by_cases h : t < 0 ∨ 253402300799 < t
  · go_enter Try.func4, Try.ntmps4
    have H := Lib.hid h
    clear h
    go_wp2_with (first
      | (go_at_call 12; refine (fit_no t H.out _).mono ?_; rintro e w' ⟨rfl, rfl⟩)
      | (go_at_call 13; refine (awake20_any _).mono ?_; rintro e w1 ⟨rfl, hb⟩))
    go_ret
    exact ⟨rfl, hb⟩
  have h0 : 0 ≤ t := by omega
  have h1 : t ≤ 253402300799 := by omega
  clear h
  have H0 := Lib.hid h0
  have H1 := Lib.hid h1
  by_cases h : u < 0 ∨ 253402300799 < u
  · go_enter Try.func4, Try.ntmps4
    have H := Lib.hid h
    clear h
    go_wp2_with fail
    refine (fit_yes t h0 h1 _).mono ?_
    rintro e w' ⟨rfl, rfl⟩
    go_wp2_with fail
    refine (fit_no u H.out _).mono ?_
    rintro e w' ⟨rfl, rfl⟩
    go_wp2_with fail
    refine (awake20_any _).mono ?_
    rintro e w1 ⟨rfl, hb⟩
    go_wp2_with fail
    go_ret
    exact ⟨rfl, hb⟩
  have hu0 : 0 ≤ u := by omega
  have hu1 : u ≤ 253402300799 := by omega
  clear h
  have HU0 := Lib.hid hu0
  have HU1 := Lib.hid hu1
  by_cases h : 253402214399 < t
  · go_enter Try.func4, Try.ntmps4
    go_wp2_with fail
    refine (fit_yes t h0 h1 _).mono ?_
    rintro e w' ⟨rfl, rfl⟩
    go_wp2_with fail
    refine (fit_yes u hu0 hu1 _).mono ?_
    rintro e w' ⟨rfl, rfl⟩
    go_wp2_with fail
    refine (awake20_any _).mono ?_
    rintro e w1 ⟨rfl, hb⟩
    go_wp2_with fail
    go_ret
    exact ⟨rfl, hb⟩
  have ht1 : t ≤ 253402214399 := by omega
  clear h
  obtain ⟨D, hD⟩ : ∃ D : Nat, (D : Int) = t / 86400 := ⟨(t / 86400).toNat, by omega⟩
  obtain ⟨E, hE⟩ : ∃ E : Nat, (E : Int) = u / 86400 := ⟨(u / 86400).toNat, by omega⟩
  have hD2 : ((D + 1 : Nat) : Int) = (t + 86400) / 86400 := by omega
  have hDl : D ≤ 2932895 := by omega
  have hEl : E ≤ 2932896 := by omega
  have a0 : 0 ≤ t + 86400 := by omega
  have a1 : t + 86400 ≤ 253402300799 := by omega
  have cd1 := fun W => day_yes t h0 h1 D hD W
  have cd2 := fun W => day_yes (t + 86400) a0 a1 _ hD2 W
  have cd3 := fun W => day_yes u hu0 hu1 E hE W
  have cw1 := fun W => week_yes t h0 h1 D hD W
  have cw2 := fun W => week_yes (t + 86400) a0 a1 _ hD2 W
  have cw3 := fun W => week_yes u hu0 hu1 E hE W
  have cm1 := fun W => month_yes t h0 h1 D hD W
  have cm2 := fun W => month_yes (t + 86400) a0 a1 _ hD2 W
  have cm3 := fun W => month_yes u hu0 hu1 E hE W
  have ct1 := fun W => date_yes t h0 h1 D hD W
  have ct3 := fun W => date_yes u hu0 hu1 E hE W
  have hms := mon_step D
  have hmb := mon_lt (show D ≤ 2932896 by omega)
  have hmle : D ≤ E → mon D ≤ mon E := mon_le
  have hless := dateL_less (show D ≤ 2932896 by omega) hEl
  have hinj := dateL_inj (show D ≤ 2932896 by omega) hEl
  obtain ⟨xa, Hxa⟩ : ∃ x : ByteArray, Hid ((⟨(dateL D).toArray⟩ : ByteArray) = x) := ⟨_, rfl⟩
  obtain ⟨ya, Hya⟩ : ∃ x : ByteArray, Hid ((⟨(dateL E).toArray⟩ : ByteArray) = x) := ⟨_, rfl⟩
  have hxl : xa.toList = dateL D := by rw [← Hxa.out, ByteArray.toList_eq]
  have hyl : ya.toList = dateL E := by rw [← Hya.out, ByteArray.toList_eq]
  rw [Hxa.out] at ct1
  rw [Hya.out] at ct3
  have hcmp : (t > u ∧ ((D = E ∧ xa = ya) ∨ ((D : Int) ≠ E ∧ (xa.toList == ya.toList) = false))) ∨ (t ≤ u ∧ D = E ∧ xa = ya) ∨ (t ≤ u ∧ (D : Int) < E ∧ Op.bytesLess xa.toList ya.toList = true ∧ (xa.toList == ya.toList) = false) := by
    have hne : D ≠ E → (xa.toList == ya.toList) = false := by
      intro hne
      rw [hxl, hyl]
      have : dateL D ≠ dateL E := fun e => hne (hinj.1 e)
      simpa using this
    have heq : D = E → xa = ya := by intro e; rw [← Hxa.out, ← Hya.out, e]
    by_cases hde : D = E
    · by_cases hlt : t > u
      · exact .inl ⟨hlt, .inl ⟨hde, heq hde⟩⟩
      · exact .inr (.inl ⟨by omega, hde, heq hde⟩)
    · by_cases hlt : t > u
      · exact .inl ⟨hlt, .inr ⟨by omega, hne hde⟩⟩
      · refine .inr (.inr ⟨by omega, by omega, ?_, hne hde⟩)
        rw [hxl, hyl, hless]
        simp; omega
  obtain ⟨d, Hd⟩ : ∃ d : Int, Hid ((D : Int) = d) := ⟨_, rfl⟩
  obtain ⟨e, He⟩ : ∃ d : Int, Hid ((E : Int) = d) := ⟨_, rfl⟩
  obtain ⟨a, Ha⟩ : ∃ d : Int, Hid ((((D + 3) / 7 : Nat) : Int) = d) := ⟨_, rfl⟩
  obtain ⟨b, Hb⟩ : ∃ d : Int, Hid ((((D + 1 + 3) / 7 : Nat) : Int) = d) := ⟨_, rfl⟩
  obtain ⟨c, Hc⟩ : ∃ d : Int, Hid ((((E + 3) / 7 : Nat) : Int) = d) := ⟨_, rfl⟩
  obtain ⟨m, Hm⟩ : ∃ d : Int, Hid ((mon D : Int) = d) := ⟨_, rfl⟩
  obtain ⟨n, Hn⟩ : ∃ d : Int, Hid ((mon (D + 1) : Int) = d) := ⟨_, rfl⟩
  obtain ⟨o, Ho⟩ : ∃ d : Int, Hid ((mon E : Int) = d) := ⟨_, rfl⟩
  rw [Hd.out] at cd1
  rw [show ((D + 1 : Nat) : Int) = d + 1 by have := Hd.out; omega] at cd2
  rw [He.out] at cd3
  rw [Ha.out] at cw1
  rw [Hb.out] at cw2
  rw [Hc.out] at cw3
  rw [Hm.out] at cm1
  rw [Hn.out] at cm2
  rw [Ho.out] at cm3
  have hd0 : 0 ≤ d ∧ d ≤ 2932895 := by have := Hd.out; omega
  have ha0 : 0 ≤ a ∧ a ≤ 1000000 := by have := Ha.out; omega
  have hm0 : 0 ≤ m ∧ m ≤ 1000000 := by have := Hm.out; omega
  have hab : (b = a + 1 ∧ (d % 7 == 3) = true) ∨ (b = a ∧ (d % 7 == 3) = false) := by
    have := Hd.out; have := Ha.out; have := Hb.out
    simp
    omega
  have hmn : n = m ∨ n = m + 1 := by have := Hm.out; have := Hn.out; omega
  have hcmp2 : (t > u ∧ ((d = e ∧ xa = ya) ∨ ((d == e) = false ∧ (xa.toList == ya.toList) = false))) ∨ (t ≤ u ∧ d = e ∧ a = c ∧ m = o ∧ xa = ya) ∨ (t ≤ u ∧ decide (d ≤ e) = true ∧ decide (a ≤ c) = true ∧ decide (m ≤ o) = true ∧ (d == e) = false ∧ Op.bytesLess xa.toList ya.toList = true ∧ (xa.toList == ya.toList) = false) := by
    have e1 := Hd.out; have e2 := He.out; have e3 := Ha.out; have e4 := Hc.out; have e5 := Hm.out; have e6 := Ho.out
    rcases hcmp with ⟨h1, h2 | h2⟩ | ⟨h1, h2, h3⟩ | ⟨h1, h2, h3, h4⟩
    · exact .inl ⟨h1, .inl ⟨by omega, h2.2⟩⟩
    · exact .inl ⟨h1, .inr ⟨by simp; omega, h2.2⟩⟩
    · subst h2
      exact .inr (.inl ⟨h1, by omega, by omega, by omega, h3⟩)
    · have h5 := hmle (by omega)
      exact .inr (.inr ⟨h1, by simp; omega, by simp; omega, by simp; omega, by simp; omega, h3, h4⟩)
  have Cd1 := Lib.hid cd1
  have Cd2 := Lib.hid cd2
  have Cd3 := Lib.hid cd3
  have Cw1 := Lib.hid cw1
  have Cw2 := Lib.hid cw2
  have Cw3 := Lib.hid cw3
  have Cm1 := Lib.hid cm1
  have Cm2 := Lib.hid cm2
  have Cm3 := Lib.hid cm3
  have Ct1 := Lib.hid ct1
  have Ct3 := Lib.hid ct3
  clear cd1 cd2 cd3 cw1 cw2 cw3 cm1 cm2 cm3 ct1 ct3 Hd He Ha Hb Hc Hm Hn Ho Hxa Hya hcmp hxl hyl hless hinj hmle hms hmb hD hE hD2 hDl hEl
  have haa : (a == a + 1) = false := by simp; omega
  have hmm : (m == m + 1) = false := by simp; omega
  have haa2 : (a + 1 == a) = false := by simp; omega
  have hmm2 : (m + 1 == m) = false := by simp; omega
  obtain ⟨hd0, hd1⟩ := hd0
  obtain ⟨ha0, ha1⟩ := ha0
  obtain ⟨hm0, hm1⟩ := hm0
  rcases hab with ⟨rfl, hd7⟩ | ⟨rfl, hd7⟩
  all_goals rcases hmn with rfl | rfl
  all_goals rcases hcmp2 with ⟨htu, ⟨rfl, rfl⟩ | ⟨hde, hxy⟩⟩ | ⟨htu, rfl, rfl, rfl, rfl⟩ | ⟨htu, k1, k2, k3, k4, k5, k6⟩
  all_goals
    go_enter Try.func4, Try.ntmps4
    go_wp2_with (first
      | (go_at_call 12; (with_reducible refine (fit_yes t H0.out H1.out _).mono ?_); rintro e w' ⟨rfl, rfl⟩)
      | (go_at_call 12; (with_reducible refine (fit_yes u HU0.out HU1.out _).mono ?_); rintro e w' ⟨rfl, rfl⟩)
      | (go_at_call 14; (with_reducible refine (Cd1.out _).mono ?_); rintro e w' ⟨rfl, rfl⟩)
      | (go_at_call 14; (with_reducible refine (Cd2.out _).mono ?_); rintro e w' ⟨rfl, rfl⟩)
      | (go_at_call 14; (with_reducible refine (Cd3.out _).mono ?_); rintro e w' ⟨rfl, rfl⟩)
      | (go_at_call 15; (with_reducible refine (Cw1.out _).mono ?_); rintro e w' ⟨rfl, rfl⟩)
      | (go_at_call 15; (with_reducible refine (Cw2.out _).mono ?_); rintro e w' ⟨rfl, rfl⟩)
      | (go_at_call 15; (with_reducible refine (Cw3.out _).mono ?_); rintro e w' ⟨rfl, rfl⟩)
      | (go_at_call 16; (with_reducible refine (Cm1.out _).mono ?_); rintro e w' ⟨rfl, rfl⟩)
      | (go_at_call 16; (with_reducible refine (Cm2.out _).mono ?_); rintro e w' ⟨rfl, rfl⟩)
      | (go_at_call 16; (with_reducible refine (Cm3.out _).mono ?_); rintro e w' ⟨rfl, rfl⟩)
      | (go_at_call 11; (with_reducible refine (Ct1.out _).mono ?_); rintro e w1 ⟨rfl, hb1⟩)
      | (go_at_call 11; (with_reducible refine (Ct3.out _).mono ?_); rintro e w2 ⟨rfl, hb2⟩)
      | (go_at_call 13; refine (awake20_any _).mono ?_; rintro e w3 ⟨rfl, hb3⟩))
    go_ret
    exact ⟨rfl, bthen (bthen hb1 hb2) hb3⟩
end Go.Proofs.Ytcblcjbflgepoaa
