/- The document's Prime and the law PolyDivides of layer 9, walked. Conditions: numbers of 64 bits. -/
import Derived.Test.YtgjofpefglbjjaaLaw9b
import Derived.Test.YtgjofpefglbjjaaRef9b
import Derived.Test.YtgjofpefglbjjaaGf4
namespace Go.Proofs.Ytgjofpefglbjjaa
open Go.RowKit
set_option maxRecDepth 100000

theorem prB_of_irr {p : Nat} (hf : fitB p = true) (h : Gf.Irr p) (h15 : Gf.len p ≤ 15) : prB p = true := by
  unfold prB
  rw [hf, Gf.irr_test p h h15]
  rfl

set_option maxHeartbeats 1000000 in
theorem refPrime_any (p : Nat) (hp : p < 32768) (w : World) :
    Calls Try.prog 27 #[.int .u64 (p : Int)] w fun e w' => e = .returned (.bool (prB p)) ∧ Below w.heap.size w w' := by
  have hp64 : p < 18446744073709551616 := by omega
  have h15 : Gf.len p ≤ 15 := Gf.len_le (n := 15) (by simpa using hp)
  cases hf : fitB p
  · have H := Lib.hid hf
    have Hr : Hid (prB p = false) := by show _ = _; unfold prB; rw [hf]; rfl
    clear hf
    go_enter Try.func27, Try.ntmps27
    go_wp2_with (refine (refFit_any p hp64 _).mono ?_; rw [H.out]; rintro e w1 ⟨rfl, hb1⟩)
    go_ret
    exact ⟨ret_bool2 Hr.out.symm, hb1⟩
  · obtain ⟨hf1, hf2, hm0⟩ := fit_len hf
    have Hf := Lib.hid hf
    obtain ⟨c, hc⟩ : ∃ c : Nat, Gf.len p = c + 1 := ⟨Gf.len p - 1, by omega⟩
    have Cp := Lib.hid (fun W => refDegree_any p hp64 (c : Int) (by omega) W)
    have hc14 : c ≤ 14 := by omega
    have Hc := Lib.hid hc
    have Hp2 := Lib.hid hf1
    clear hf hf1 hf2 hc
    go_enter Try.func27, Try.ntmps27
    go_wp2_with (refine (refFit_any p hp64 _).mono ?_; rw [Hf.out]; rintro e w1 ⟨rfl, hb1⟩)
    go_loopw [3] (fun x wr => ∃ D : Nat, 2 ≤ D ∧ D ≤ 256 ∧ x = .int .u64 (D : Int) ∧ Hid (∀ d, 2 ≤ d → d < D → ¬ Gf.Dvd d p) ∧ Below w.heap.size w wr)
      (fun x _ => 300 - (intOf x).toNat)
    case atStart => exact ⟨2, by omega, by omega, rfl, fun d h1 h2 => by omega, hb1⟩
    case round =>
      clear hb1
      obtain ⟨D, hD2, hD3, rfl, HD, hbw⟩ := hrel
      obtain ⟨y, hy⟩ : ∃ y : Nat, Gf.len D = y + 1 := ⟨Gf.len D - 1, by have := Gf.len_pos (show D ≠ 0 by omega); omega⟩
      have hyl : y ≤ 8 := by
        have := Gf.len_le (a := D) (n := 9) (by have : (2 : Nat) ^ 9 = 512 := by decide
                                                omega)
        omega
      have CD := Lib.hid (fun W => refDegree_any D (by omega) (y : Int) (by omega) W)
      have Hy := Lib.hid hy
      clear hy
      by_cases hlt : 2 * y ≤ c
      · have hD256 : D < 256 := by
          have h1 := Gf.len_lt D
          have h2 : 2 ^ Gf.len D ≤ 2 ^ 8 := Nat.pow_le_pow_right (by decide) (by have := Hy.out; omega)
          have h3 : (2 : Nat) ^ 8 = 256 := by decide
          omega
        have CV := fun W => divides_any D p (by omega) hp64 (by omega) W
        cases hv : (Gf.md p D == 0)
        · rw [hv] at CV
          have CV2 := Lib.hid CV
          have Hnd : Hid (∀ d, 2 ≤ d → d < D + 1 → ¬ Gf.Dvd d p) := fun d h1 h2 => by
            by_cases e : d = D
            · subst e
              intro hd
              rw [(Gf.dvd_iff_md (by omega)).1 hd] at hv
              cases hv
            · exact HD.out d h1 (by omega)
          clear CV hv
          go_wp2_with fail
          refine (CD.out _).mono ?_; rintro e w2 ⟨rfl, hb2⟩
          go_wp2_with fail
          refine (Cp.out _).mono ?_; rintro e w3 ⟨rfl, hb3⟩
          go_wp2_with fail
          refine (CV2.out _).mono ?_; rintro e w4 ⟨rfl, hb4⟩
          go_wp2_with fail
          go_roundw
          case rel => exact ⟨D + 1, by omega, by omega, by go_num, Hnd, bthen (bthen (bthen hbw hb2) hb3) hb4⟩
          case measure => simp [intOf]; omega
        · rw [hv] at CV
          have CV2 := Lib.hid CV
          have Hno : Hid (prB p = false) := by
            show _ = _
            cases hpr : prB p
            · rfl
            · have h1 := prB_irr hpr
              have h2 := (Gf.dvd_iff_md (show D ≠ 0 by omega)).2 (by simpa using hv)
              exact absurd h1 (Gf.not_irr h2 hD2 (by have := Hy.out; have := Hc.out; omega) Hp2.out)
          clear CV hv
          go_wp2_with fail
          refine (CD.out _).mono ?_; rintro e w2 ⟨rfl, hb2⟩
          go_wp2_with fail
          refine (Cp.out _).mono ?_; rintro e w3 ⟨rfl, hb3⟩
          go_wp2_with fail
          refine (CV2.out _).mono ?_; rintro e w4 ⟨rfl, hb4⟩
          go_wp2_with fail
          go_ret
          exact ⟨ret_bool2 Hno.out.symm, bthen (bthen (bthen hbw hb2) hb3) hb4⟩
      · have Hyes : Hid (prB p = true) := prB_of_irr Hf.out (Gf.irr_of_none p D Hp2.out (by have := Hy.out; have := Hc.out; omega) HD.out) h15
        go_wp2_with fail
        refine (CD.out _).mono ?_; rintro e w2 ⟨rfl, hb2⟩
        go_wp2_with fail
        refine (Cp.out _).mono ?_; rintro e w3 ⟨rfl, hb3⟩
        go_wp2_with fail
        go_ret
        exact ⟨ret_bool2 Hyes.out.symm, bthen (bthen hbw hb2) hb3⟩

theorem gc_lt {p q : Nat} (hp : p < 18446744073709551616) (hq : q < 18446744073709551616) : Gf.gc p q < 18446744073709551616 := by
  have hd := Gf.gc_dvd p q
  by_cases h : p = 0
  · by_cases h2 : q = 0
    · subst h h2; rw [Gf.gc_zero]; decide
    · have := Gf.lt_of_len (n := 64) (Nat.le_trans (Gf.dvd_len hd.2 h2) (len_le64 hq))
      simpa using this
  · have := Gf.lt_of_len (n := 64) (Nat.le_trans (Gf.dvd_len hd.1 h) (len_le64 hp))
    simpa using this

set_option maxHeartbeats 4000000 in
theorem polyDivides_any (p q d s : Nat) (hp : p < 18446744073709551616) (hq : q < 18446744073709551616) (hd : d < 18446744073709551616) (hs : s < 18446744073709551616) (w : World) :
    Calls Try.prog 4 #[.int .u64 (p : Int), .int .u64 (q : Int), .int .u64 (d : Int), .int .u64 (s : Int)] w fun e w' => e = .returned (.bool true) ∧ Below w.heap.size w w' := by
  have hg := gc_lt hp hq
  have C0 := Lib.hid (fun W => common_any p q hp hq W)
  obtain ⟨t, ht, htl⟩ : ∃ t : Nat, (s : Int) % 32768 = (t : Int) ∧ t < 32768 := ⟨s % 32768, by omega, by omega⟩
  have c1 := fun W => prime_any t (by omega) W
  have c2 := fun W => refPrime_any t htl W
  obtain ⟨b, hb⟩ : ∃ b, prB t = b := ⟨_, rfl⟩
  rw [hb] at c1 c2
  have C1 := Lib.hid c1
  have C2 := Lib.hid c2
  clear c1 c2 hb
  by_cases h0 : p = 0 ∧ q = 0
  · obtain ⟨rfl, rfl⟩ := h0
    rw [Gf.gc_zero] at C0
    cases b
    all_goals
      go_enter Try.func4, Try.ntmps4
      go_wp2_with fail
      refine (C0.out _).mono ?_; rintro e w' ⟨rfl, rfl⟩
      go_wp2_with fail
      refine (awake9_any _).mono ?_; rintro e w' ⟨rfl, rfl⟩
      go_wp2_with fail
      refine (C1.out _).mono ?_; rintro e w' ⟨rfl, rfl⟩
      go_wp2_with fail
      refine (C2.out _).mono ?_; rintro e w1 ⟨rfl, hb1⟩
      go_wp2_with fail
      go_ret
      exact ⟨rfl, hb1⟩
  · have hgn : Gf.gc p q ≠ 0 := Gf.gc_ne (by omega)
    have hgd := Gf.gc_dvd p q
    have hgr := fun h1 h2 => Gf.gc_great (p := p) (q := q) (d := d) h1 h2
    generalize Gf.gc p q = g at *
    have hpq : ((p : Int) == 0) = false ∨ (p = 0 ∧ ((q : Int) == 0) = false) := by
      by_cases e : p = 0
      · exact .inr ⟨e, by simp; omega⟩
      · exact .inl (by simp; omega)
    have c3 := fun W => divides_any g p hg hp hgn W
    have c4 := fun W => divides_any g q hg hq hgn W
    rw [(Gf.dvd_iff_md hgn).1 hgd.1] at c3
    rw [(Gf.dvd_iff_md hgn).1 hgd.2] at c4
    have C3 := Lib.hid c3
    have C4 := Lib.hid c4
    have hgb : ((g : Int) == 0) = false := by simp; omega
    clear c3 c4 hgd hgn h0
    have hcase : d = 0 ∨ (((d : Int) == 0) = false ∧ ∃ b1 b2 b3 : Bool, (b1 = true → b2 = true → b3 = true) ∧ Hid ((∀ W, Calls Try.prog 28 #[.int .u64 (d : Int), .int .u64 (p : Int)] W fun e w' => e = .returned (.bool b1) ∧ Below W.heap.size W w') ∧
        (∀ W, Calls Try.prog 28 #[.int .u64 (d : Int), .int .u64 (q : Int)] W fun e w' => e = .returned (.bool b2) ∧ Below W.heap.size W w') ∧
        (∀ W, Calls Try.prog 28 #[.int .u64 (d : Int), .int .u64 (g : Int)] W fun e w' => e = .returned (.bool b3) ∧ Below W.heap.size W w'))) := by
      by_cases e : d = 0
      · exact .inl e
      · refine .inr ⟨by simp; omega, _, _, _, ?_, Lib.hid ⟨fun W => divides_any d p hd hp e W, fun W => divides_any d q hd hq e W, fun W => divides_any d g hd hg e W⟩⟩
        intro h1 h2
        have := hgr ((Gf.dvd_iff_md e).2 (by simpa using h1)) ((Gf.dvd_iff_md e).2 (by simpa using h2))
        rw [(Gf.dvd_iff_md e).1 this]
        rfl
    clear hgr
    rcases hcase with rfl | ⟨hdb, b1, b2, b3, himp, HV⟩
    · cases b
      all_goals rcases hpq with hpq | ⟨rfl, hpq⟩
      all_goals
        go_enter Try.func4, Try.ntmps4
        go_wp2_with fail
        refine (C0.out _).mono ?_; rintro e w' ⟨rfl, rfl⟩
        go_wp2_with fail
        refine (awake9_any _).mono ?_; rintro e w' ⟨rfl, rfl⟩
        go_wp2_with fail
        refine (C1.out _).mono ?_; rintro e w' ⟨rfl, rfl⟩
        go_wp2_with fail
        refine (C2.out _).mono ?_; rintro e w1 ⟨rfl, hb1⟩
        go_wp2_with fail
        refine (C3.out _).mono ?_; rintro e w2 ⟨rfl, hb2⟩
        go_wp2_with fail
        refine (C4.out _).mono ?_; rintro e w3 ⟨rfl, hb3⟩
        go_wp2_with fail
        go_ret
        exact ⟨rfl, bthen (bthen hb1 hb2) hb3⟩
    · have Himp := Lib.hid himp
      clear himp
      cases b
      all_goals rcases hpq with hpq | ⟨rfl, hpq⟩
      all_goals
        go_enter Try.func4, Try.ntmps4
        go_wp2_with fail
        refine (C0.out _).mono ?_; rintro e w' ⟨rfl, rfl⟩
        go_wp2_with fail
        refine (awake9_any _).mono ?_; rintro e w' ⟨rfl, rfl⟩
        go_wp2_with fail
        refine (C1.out _).mono ?_; rintro e w' ⟨rfl, rfl⟩
        go_wp2_with fail
        refine (C2.out _).mono ?_; rintro e w1 ⟨rfl, hb1⟩
        go_wp2_with fail
        refine (C3.out _).mono ?_; rintro e w2 ⟨rfl, hb2⟩
        go_wp2_with fail
        refine (C4.out _).mono ?_; rintro e w3 ⟨rfl, hb3⟩
        go_wp2_with fail
        refine (HV.out.1 _).mono ?_; rintro e w4 ⟨rfl, hb4⟩
        cases b1
        · go_wp2_with fail
          go_ret
          exact ⟨rfl, bthen (bthen (bthen hb1 hb2) hb3) hb4⟩
        · go_wp2_with fail
          refine (HV.out.2.1 _).mono ?_; rintro e w5 ⟨rfl, hb5⟩
          cases b2
          · go_wp2_with fail
            go_ret
            exact ⟨rfl, bthen (bthen (bthen (bthen hb1 hb2) hb3) hb4) hb5⟩
          · obtain rfl : b3 = true := Himp.out (by first | rfl | trivial) (by first | rfl | trivial)
            go_wp2_with fail
            refine (HV.out.2.2 _).mono ?_; rintro e w6 ⟨rfl, hb6⟩
            go_wp2_with fail
            go_ret
            exact ⟨rfl, bthen (bthen (bthen (bthen (bthen hb1 hb2) hb3) hb4) hb5) hb6⟩
end Go.Proofs.Ytgjofpefglbjjaa
