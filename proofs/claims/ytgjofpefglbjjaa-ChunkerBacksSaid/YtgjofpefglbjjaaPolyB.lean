/- The package poly: Power, Common, Append, Prime. Conditions: none. -/
import Derived.Test.YtgjofpefglbjjaaPoly
import Derived.Test.YtgjofpefglbjjaaGf2
namespace Go.Proofs.Ytgjofpefglbjjaa
open Go.RowKit
set_option maxRecDepth 100000

theorem power_no (p n m : Nat) (hm : m < 18446744073709551616) (hf : fitB m = false) (w : World) :
    Calls Try.prog 33 #[.int .u64 (p : Int), .int .u64 (n : Int), .int .u64 (m : Int)] w fun e w' => e = .returned (.tuple #[.int .u64 0, .int .i64 1]) ∧ w = w' := by
  have H := Lib.hid (fun W => mod_no 1 m hm hf W)
  clear hf
  go_enter Try.func33, Try.ntmps33
  go_wp2_with (refine (H.out _).mono ?_; rintro e w' ⟨rfl, rfl⟩)
  go_ret2
  exact ⟨rfl, rfl⟩

set_option maxHeartbeats 1000000 in
theorem power_yes (p n m : Nat) (hp : p < 18446744073709551616) (hn : n < 18446744073709551616) (hm : m < 18446744073709551616) (hf : fitB m = true) (w : World) :
    Calls Try.prog 33 #[.int .u64 (p : Int), .int .u64 (n : Int), .int .u64 (m : Int)] w fun e w' => e = .returned (.tuple #[.int .u64 (Gf.pw p m n : Int), .int .i64 0]) ∧ w = w' := by
  obtain ⟨hf1, hf2, hm0⟩ := fit_len hf
  have hR := Gf.prel_start m p n hm0
  have C1 := Lib.hid (fun W => mod_yes 1 m (by decide) hm hf W)
  have HR := Lib.hid hR
  have Hf := Lib.hid hf
  have Hf2 := Lib.hid hf2
  have Hm0 := Lib.hid hm0
  clear hR hf hm0 hf1 hf2
  generalize Gf.md 1 m = R0 at *
  go_enter Try.func33, Try.ntmps33
  go_wp2_with (refine (C1.out _).mono ?_; rintro e w' ⟨rfl, rfl⟩)
  go_loop [0, 1, 8] (fun x y z => ∃ P N R : Nat, P < 18446744073709551616 ∧ N < 18446744073709551616 ∧ Hid (Gf.PRel m p n P N R) ∧ x = .int .u64 (P : Int) ∧ y = .int .u64 (N : Int) ∧ z = .int .u64 (R : Int)) (fun _ y _ => (intOf y).toNat)
  case atStart => exact ⟨p, n, R0, hp, hn, HR, rfl, rfl, rfl⟩
  case round =>
    clear HR
    obtain ⟨P, N, R, hP, hN, HR, rfl, rfl, rfl⟩ := hrel
    by_cases h0 : N = 0
    · subst h0
      go_wp2_with fail
      go_ret2
      exact ⟨by rw [Gf.prel_end Hm0.out HR.out]; rfl, rfl⟩
    · have hRl := lt64 HR.out.1 Hf2.out
      have hN0 : 0 < N := by omega
      have hand := and_one N hN
      have CP := Lib.hid (fun W => times_yes P P m hP hP hm Hf.out W)
      have CR := Lib.hid (fun W => times_yes R P m hRl hP hm Hf.out W)
      have hPl := lt64 (Gf.md_spec (Gf.cl P P) Hm0.out).2 Hf2.out
      clear h0
      by_cases hodd : N % 2 = 1
      · rw [hodd] at hand
        have HR2 := Lib.hid (Gf.prel_odd Hm0.out HR.out hodd)
        clear hodd
        generalize Gf.md (Gf.cl P P) m = P2 at *
        generalize Gf.md (Gf.cl R P) m = R2 at *
        go_wp2_with fail
        refine (CR.out _).mono ?_
        rintro e w' ⟨rfl, rfl⟩
        go_wp2_with fail
        refine (CP.out _).mono ?_
        rintro e w' ⟨rfl, rfl⟩
        go_wp2_with fail
        go_round
        case rel => exact ⟨P2, N / 2, R2, hPl, by omega, HR2, rfl, rfl, rfl⟩
        case measure => simp [intOf]; omega
      · have hev : N % 2 = 0 := by omega
        rw [hev] at hand
        have HR2 := Lib.hid (Gf.prel_even Hm0.out HR.out hev)
        clear hodd hev
        generalize Gf.md (Gf.cl P P) m = P2 at *
        go_wp2_with fail
        refine (CP.out _).mono ?_
        rintro e w' ⟨rfl, rfl⟩
        go_wp2_with fail
        go_round
        case rel => exact ⟨P2, N / 2, R, hPl, by omega, HR2, rfl, rfl, rfl⟩
        case measure => simp [intOf]; omega

set_option maxHeartbeats 1000000 in
theorem common_any (p q : Nat) (hp : p < 18446744073709551616) (hq : q < 18446744073709551616) (w : World) :
    Calls Try.prog 25 #[.int .u64 (p : Int), .int .u64 (q : Int)] w fun e w' => e = .returned (.int .u64 (Gf.gc p q : Int)) ∧ w = w' := by
  go_enter Try.func25, Try.ntmps25
  go_wp2_with fail
  go_loop [0, 1] (fun x y => ∃ P Q : Nat, P < 18446744073709551616 ∧ Q < 18446744073709551616 ∧ Hid (Gf.gc P Q = Gf.gc p q) ∧ x = .int .u64 (P : Int) ∧ y = .int .u64 (Q : Int)) (fun _ y => Gf.len (intOf y).toNat)
  case atStart => exact ⟨p, q, hp, hq, rfl, rfl, rfl⟩
  case round =>
    obtain ⟨P, Q, hP, hQ, HG, rfl, rfl⟩ := hrel
    by_cases h0 : Q = 0
    · subst h0
      go_wp2_with fail
      go_ret
      exact ⟨by rw [← HG.out, Gf.gc_zero]; rfl, rfl⟩
    · have hne : ((Q : Int) != 0) = true := by simp; omega
      have H0 := Lib.hid h0
      have hQl := len_le64 hQ
      obtain ⟨d, hd⟩ : ∃ d : Int, d = (Gf.len Q : Int) - 1 := ⟨_, rfl⟩
      have hlp := Gf.len_pos h0
      have hd1 : 0 ≤ d := by omega
      have hd2 : d ≤ 63 := by omega
      have Hd := Lib.hid hd
      clear h0 hd hlp
      go_wp2_with fail
      go_loop [0] (fun x => ∃ R : Nat, R < 18446744073709551616 ∧ Hid (Gf.md R Q = Gf.md P Q) ∧ x = .int .u64 (R : Int)) (fun x => Gf.len (intOf x).toNat)
      case atStart => exact ⟨P, hP, rfl, rfl⟩
      case round =>
        obtain ⟨R, hR, HR, rfl⟩ := hrel
        have hRl := len_le64 hR
        obtain ⟨c, hc⟩ : ∃ d : Int, d = (Gf.len R : Int) - 1 := ⟨_, rfl⟩
        have hc1 : -1 ≤ c := by omega
        have hc2 : c ≤ 63 := by omega
        have Hc := Lib.hid hc
        have CR := Lib.hid (fun W => degree_any R hR c hc W)
        have CQ := Lib.hid (fun W => degree_any Q hQ d Hd.out W)
        clear hc
        by_cases hlt : d ≤ c
        · have hkk : ∃ k : Nat, c - d = (k : Int) ∧ k ≤ 63 ∧ k = Gf.len R - Gf.len Q := ⟨(c - d).toNat, by omega, by omega, by have := Hc.out; have := Hd.out; omega⟩
          obtain ⟨k, hk, hk62, hkl⟩ := hkk
          have Hkl := Lib.hid hkl
          clear hkl
          have hlm : Gf.len Q ≤ Gf.len R := by have := Hc.out; have := Hd.out; omega
          have hs : Q * 2 ^ k < 18446744073709551616 := by
            have h2 := Gf.len_shift H0.out k
            have h3 := Gf.lt_of_len (a := Q * 2 ^ k) (n := 64) (by rw [h2, Hkl.out]; omega)
            simpa using h3
          have Hst := Lib.hid (Gf.md_step H0.out hlm)
          have Hlt := Lib.hid (Gf.step_lt H0.out hlm)
          rw [← Hkl.out] at Hst Hlt
          obtain ⟨S, hS⟩ : ∃ S, Q * 2 ^ k = S := ⟨_, rfl⟩
          have hw : IntKind.u64.wrap ((Q : Int) * 2 ^ k) = (S : Int) := by
            have : (Q : Int) * 2 ^ k = ((Q * 2 ^ k : Nat) : Int) := by simp
            rw [this, IntKind.wrap_u64, hS]; omega
          rw [hS] at hs Hst Hlt
          clear hS
          have hx := u64_xor_nat R S hR hs
          have hxl : R ^^^ S < 18446744073709551616 := Nat.xor_lt_two_pow (n := 64) (by simpa using hR) (by simpa using hs)
          go_wp2_with (first | ((with_reducible refine (CR.out _).mono ?_); rintro e w' ⟨rfl, rfl⟩) | ((with_reducible refine (CQ.out _).mono ?_); rintro e w' ⟨rfl, rfl⟩))
          go_round
          case rel => exact ⟨_, hxl, by show _ = _; rw [← Hst.out]; exact HR.out, rfl⟩
          case measure => simp only [intOf, Int.toNat_natCast]; exact Hlt.out
        · have h1 : Gf.len R < Gf.len Q := by have := Hc.out; have := Hd.out; omega
          have Hstop := Lib.hid (Gf.md_stop h1)
          have Hlt := Lib.hid h1
          clear h1
          go_wp2_with (first | ((with_reducible refine (CR.out _).mono ?_); rintro e w' ⟨rfl, rfl⟩) | ((with_reducible refine (CQ.out _).mono ?_); rintro e w' ⟨rfl, rfl⟩))
          go_round
          case rel => exact ⟨Q, R, hQ, hR, by show _ = _; rw [← HG.out, Gf.gc_step P H0.out, ← HR.out, Hstop.out], rfl, rfl⟩
          case measure => simp only [intOf, Int.toNat_natCast]; exact Hlt.out

theorem append_no (p c m : Nat) (hm : m < 18446744073709551616) (hf : fitB m = false) (w : World) :
    Calls Try.prog 34 #[.int .u64 (p : Int), .int .u8 (c : Int), .int .u64 (m : Int)] w fun e w' => e = .returned (.tuple #[.int .u64 0, .int .i64 1]) ∧ w = w' := by
  have H := Lib.hid (fun W => times_no p 256 m hm hf W)
  clear hf
  go_enter Try.func34, Try.ntmps34
  go_wp2_with (refine (H.out _).mono ?_; rintro e w' ⟨rfl, rfl⟩)
  go_ret2
  exact ⟨rfl, rfl⟩
theorem append_yes (p c m : Nat) (hp : p < 18446744073709551616) (hc : c < 256) (hm : m < 18446744073709551616) (hf : fitB m = true) (w : World) :
    Calls Try.prog 34 #[.int .u64 (p : Int), .int .u8 (c : Int), .int .u64 (m : Int)] w fun e w' => e = .returned (.tuple #[.int .u64 (Gf.md (p * 256 + c) m : Int), .int .i64 0]) ∧ w = w' := by
  obtain ⟨hf1, hf2, hm0⟩ := fit_len hf
  have C1 := Lib.hid (fun W => times_yes p 256 m hp (by decide) hm hf W)
  have C2 := Lib.hid (fun W => mod_yes c m (by omega) hm hf W)
  have h1 := lt64 (Gf.md_spec (Gf.cl p 256) hm0).2 hf2
  have h2 := lt64 (Gf.md_spec c hm0).2 hf2
  have C3 := Lib.hid (fun W => add_any _ _ h1 h2 W)
  have He : Hid (Gf.md (Gf.cl p 256) m ^^^ Gf.md c m = Gf.md (p * 256 + c) m) := by
    show _ = _
    rw [Gf.add_xor p c hc, Gf.md_xor hm0]
  rw [He.out] at C3
  generalize Gf.md (Gf.cl p 256) m = a at *
  generalize Gf.md c m = b at *
  generalize Gf.md (p * 256 + c) m = r at *
  clear hf hf1 hf2 hm0 He
  go_enter Try.func34, Try.ntmps34
  go_wp2_with (first
    | (go_at_call 20; refine (C1.out _).mono ?_; rintro e w' ⟨rfl, rfl⟩)
    | (go_at_call 19; refine (C2.out _).mono ?_; rintro e w' ⟨rfl, rfl⟩)
    | (go_at_call 18; refine (C3.out _).mono ?_; rintro e w' ⟨rfl, rfl⟩))
  go_ret2
  exact ⟨rfl, rfl⟩

theorem ret_bool2 {a b : Bool} (h : a = b) : Ending.returned (.bool a) = .returned (.bool b) := by rw [h]
/-- What Prime answers. -/
def prB (p : Nat) : Bool := fitB p && Gf.prAll p ((Gf.len p - 1) / 2)

set_option maxHeartbeats 1000000 in
theorem prime_any (p : Nat) (hp : p < 18446744073709551616) (w : World) :
    Calls Try.prog 26 #[.int .u64 (p : Int)] w fun e w' => e = .returned (.bool (prB p)) ∧ w = w' := by
  cases hf : fitB p
  · have H := Lib.hid hf
    have Hr : Hid (prB p = false) := by show _ = _; unfold prB; rw [hf]; rfl
    clear hf
    go_enter Try.func26, Try.ntmps26
    go_wp2_with (refine (fit_any p hp _).mono ?_; rw [H.out]; rintro e w' ⟨rfl, rfl⟩)
    go_ret
    exact ⟨ret_bool2 Hr.out.symm, rfl⟩
  · obtain ⟨hf1, hf2, hm0⟩ := fit_len hf
    have Hf := Lib.hid hf
    have Hm0 := Lib.hid hm0
    have Hf2 := Lib.hid hf2
    have Hr : Hid (prB p = Gf.prAll p ((Gf.len p - 1) / 2)) := by show _ = _; unfold prB; rw [hf]; rfl
    obtain ⟨d, hd⟩ : ∃ d : Nat, Gf.len p = d + 1 := ⟨Gf.len p - 1, by omega⟩
    have Cd := Lib.hid (fun W => degree_any p hp (d : Int) (by omega) W)
    have hdl : d ≤ 62 := by omega
    have Hd := Lib.hid hd
    rw [Hr.out, show (Gf.len p - 1) / 2 = d / 2 by omega]
    clear hf hm0 hf1 hf2 Hr hd
    go_enter Try.func26, Try.ntmps26
    go_wp2_with (first | (go_at_call 46; refine (fit_any p hp _).mono ?_; rw [Hf.out]; rintro e w' ⟨rfl, rfl⟩) | (go_at_call 16; refine (Cd.out _).mono ?_; rintro e w' ⟨rfl, rfl⟩))
    go_loop [4, 5] (fun z i => ∃ k Z : Nat, k ≤ d / 2 ∧ i = .int .i64 ((k : Int) + 1) ∧ z = .int .u64 (Z : Int) ∧ Z < 18446744073709551616 ∧ Hid (Z = Gf.zi p k) ∧ Hid (Gf.prAll p k = true)) (fun _ i => d + 1 - (intOf i).toNat)
    case atStart => exact ⟨0, 2, by omega, rfl, rfl, by decide, rfl, rfl⟩
    case round =>
      obtain ⟨k, Z, hk, rfl, rfl, hZ, HZ, HP⟩ := hrel
      by_cases hlt : k < d / 2
      · have C1 := Lib.hid (fun W => times_yes Z Z p hZ hZ hp Hf.out W)
        have hzl := lt64 (Gf.md_spec (Gf.cl Z Z) Hm0.out).2 Hf2.out
        have Hz2 : Hid (Gf.md (Gf.cl Z Z) p = Gf.zi p (k + 1)) := by show _ = _; rw [HZ.out]; rfl
        generalize Gf.md (Gf.cl Z Z) p = Y at *
        have hyl : Y ^^^ 2 < 18446744073709551616 := Nat.xor_lt_two_pow (n := 64) (by simpa using hzl) (by decide)
        have C2 := Lib.hid (fun W => add_any Y 2 hzl (by decide) W)
        have C3 := Lib.hid (fun W => mod_yes (Y ^^^ 2) p hyl hp Hf.out W)
        have hml := lt64 (Gf.md_spec (Y ^^^ 2) Hm0.out).2 Hf2.out
        have Hok : Hid (Gf.prOk p (k + 1) = (Gf.gc p (Gf.md (Y ^^^ 2) p) == 1)) := by show _ = _; unfold Gf.prOk; rw [Hz2.out]
        generalize Y ^^^ 2 = X at *
        generalize Gf.md X p = V at *
        have C4 := Lib.hid (fun W => common_any p V hp hml W)
        generalize Gf.gc p V = G at *
        by_cases hG : G = 1
        · subst hG
          go_wp2_with (first
            | (go_at_call 20; refine (C1.out _).mono ?_; rintro e w' ⟨rfl, rfl⟩)
            | (go_at_call 18; refine (C2.out _).mono ?_; rintro e w' ⟨rfl, rfl⟩)
            | (go_at_call 19; refine (C3.out _).mono ?_; rintro e w' ⟨rfl, rfl⟩)
            | (go_at_call 25; refine (C4.out _).mono ?_; rintro e w' ⟨rfl, rfl⟩))
          go_round
          case rel => exact ⟨k + 1, Y, hlt, by go_num, rfl, hzl, Hz2, by show _ = _; simp only [Gf.prAll, HP.out, Hok.out]; rfl⟩
          case measure => simp [intOf]; omega
        · have hGb : ((G : Int) != 1) = true := by simp; omega
          have Hbad : Hid (Gf.prOk p (k + 1) = false) := by show _ = _; rw [Hok.out]; simpa using hG
          clear hG
          go_wp2_with (first
            | (go_at_call 20; refine (C1.out _).mono ?_; rintro e w' ⟨rfl, rfl⟩)
            | (go_at_call 18; refine (C2.out _).mono ?_; rintro e w' ⟨rfl, rfl⟩)
            | (go_at_call 19; refine (C3.out _).mono ?_; rintro e w' ⟨rfl, rfl⟩)
            | (go_at_call 25; refine (C4.out _).mono ?_; rintro e w' ⟨rfl, rfl⟩))
          go_ret
          exact ⟨ret_bool2 (Gf.prAll_not (by omega) hlt Hbad.out).symm, rfl⟩
      · obtain rfl : k = d / 2 := by omega
        go_wp2_with fail
        go_ret
        exact ⟨ret_bool2 HP.out.symm, rfl⟩
end Go.Proofs.Ytgjofpefglbjjaa
