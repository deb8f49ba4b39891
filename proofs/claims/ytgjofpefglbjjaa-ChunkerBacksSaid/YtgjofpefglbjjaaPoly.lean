/- The package poly: Degree, Add, Mod, Times, Power, Common, Append. Conditions: none. -/
import Derived.Test.YtgjofpefglbjjaaLen
namespace Go.Proofs.Ytgjofpefglbjjaa
open Go.RowKit
set_option maxRecDepth 100000

theorem len_le64 {p : Nat} (hp : p < 18446744073709551616) : Gf.len p ≤ 64 := Gf.len_le (n := 64) (by simpa using hp)

theorem degree_any (p : Nat) (hp : p < 18446744073709551616) (d : Int) (hd : d = (Gf.len p : Int) - 1) (w : World) :
    Calls Try.prog 16 #[.int .u64 (p : Int)] w fun e w' => e = .returned (.int .i64 d) ∧ w = w' := by
  have hl := len_le64 hp
  have H := Lib.hid hd
  clear hd
  go_enter Try.func16, Try.ntmps16
  go_wp2_with (refine (len64_any p hp _).mono ?_; rintro e w' ⟨rfl, rfl⟩)
  go_ret
  exact ⟨ret_int (by have := H.out; omega), rfl⟩

theorem add_any (p q : Nat) (hp : p < 18446744073709551616) (hq : q < 18446744073709551616) (w : World) :
    Calls Try.prog 18 #[.int .u64 (p : Int), .int .u64 (q : Int)] w fun e w' => e = .returned (.int .u64 ((p ^^^ q : Nat) : Int)) ∧ w = w' := by
  have hx := u64_xor_nat p q hp hq
  go_enter Try.func18, Try.ntmps18
  go_wp2
  go_ret
  exact ⟨ret_int rfl, rfl⟩

/-- May one reckon by it? -/
def fitB (m : Nat) : Bool := decide (2 ≤ Gf.len m ∧ Gf.len m ≤ 63)
theorem fit_any (m : Nat) (hm : m < 18446744073709551616) (w : World) :
    Calls Try.prog 46 #[.int .u64 (m : Int)] w fun e w' => e = .returned (.bool (fitB m)) ∧ w = w' := by
  have hl := len_le64 hm
  obtain ⟨d, hd⟩ : ∃ d : Int, d = (Gf.len m : Int) - 1 := ⟨_, rfl⟩
  have H := Lib.hid hd
  have hd0 : -1 ≤ d := by omega
  have hd1 : d ≤ 63 := by omega
  have Hr : Hid (fitB m = decide (1 ≤ d ∧ d ≤ 62)) := by
    show _ = _
    unfold fitB
    refine decide_eq_decide.2 ?_
    omega
  clear hd
  by_cases h1 : 1 ≤ d
  · by_cases h2 : d ≤ 62
    · go_enter Try.func46, Try.ntmps46
      go_wp2_with (refine (degree_any m hm d H.out _).mono ?_; rintro e w' ⟨rfl, rfl⟩)
      go_ret
      exact ⟨by rw [Hr.out]; simp; omega, rfl⟩
    · have h3 : decide (d ≤ 62) = false := by simpa using h2
      go_enter Try.func46, Try.ntmps46
      go_wp2_with (refine (degree_any m hm d H.out _).mono ?_; rintro e w' ⟨rfl, rfl⟩)
      go_ret
      exact ⟨by rw [Hr.out]; simp; omega, rfl⟩
  · have h3 : decide (1 ≤ d) = false := by simpa using h1
    go_enter Try.func46, Try.ntmps46
    go_wp2_with (refine (degree_any m hm d H.out _).mono ?_; rintro e w' ⟨rfl, rfl⟩)
    go_ret
    exact ⟨by rw [Hr.out]; simp; omega, rfl⟩

theorem mod_no (p m : Nat) (hm : m < 18446744073709551616) (hf : fitB m = false) (w : World) :
    Calls Try.prog 19 #[.int .u64 (p : Int), .int .u64 (m : Int)] w fun e w' => e = .returned (.tuple #[.int .u64 0, .int .i64 1]) ∧ w = w' := by
  have H := Lib.hid hf
  clear hf
  go_enter Try.func19, Try.ntmps19
  go_wp2_with (refine (fit_any m hm _).mono ?_; rw [H.out]; rintro e w' ⟨rfl, rfl⟩)
  go_ret2
  exact ⟨rfl, rfl⟩

theorem mod_yes (p m : Nat) (hp : p < 18446744073709551616) (hm : m < 18446744073709551616) (hf : fitB m = true) (w : World) :
    Calls Try.prog 19 #[.int .u64 (p : Int), .int .u64 (m : Int)] w fun e w' => e = .returned (.tuple #[.int .u64 (Gf.md p m : Int), .int .i64 0]) ∧ w = w' := by
  have hfl : 2 ≤ Gf.len m ∧ Gf.len m ≤ 63 := by unfold fitB at hf; simpa using hf
  have hm0 : m ≠ 0 := fun e => by rw [e, Gf.len_zero] at hfl; omega
  obtain ⟨d, hd⟩ : ∃ d : Int, d = (Gf.len m : Int) - 1 := ⟨_, rfl⟩
  have hd1 : 1 ≤ d ∧ d ≤ 62 := by omega
  have H := Lib.hid hf
  have Hd := Lib.hid hd
  have Hm0 := Lib.hid hm0
  have Hfl := Lib.hid hfl
  obtain ⟨hd2, hd3⟩ := hd1
  clear hf hd hm0 hfl
  go_enter Try.func19, Try.ntmps19
  go_wp2_with (first | (go_at_call 46; refine (fit_any m hm _).mono ?_; rw [H.out]; rintro e w' ⟨rfl, rfl⟩) | (go_at_call 16; refine (degree_any m hm d Hd.out _).mono ?_; rintro e w' ⟨rfl, rfl⟩))
  go_loop [0] (fun x => ∃ q : Nat, q < 18446744073709551616 ∧ Hid (Gf.md q m = Gf.md p m) ∧ x = .int .u64 (q : Int)) (fun x => Gf.len (intOf x).toNat)
  case atStart => exact ⟨p, hp, rfl, rfl⟩
  case round =>
    obtain ⟨q, hq, Hq, rfl⟩ := hrel
    have hql := len_le64 hq
    obtain ⟨c, hc⟩ : ∃ d : Int, d = (Gf.len q : Int) - 1 := ⟨_, rfl⟩
    have hc1 : -1 ≤ c := by omega
    have hc2 : c ≤ 63 := by omega
    have Hc := Lib.hid hc
    clear hc
    by_cases hlt : d ≤ c
    · have hkk : ∃ k : Nat, c - d = (k : Int) ∧ k ≤ 62 ∧ k = Gf.len q - Gf.len m := ⟨(c - d).toNat, by omega, by omega, by have := Hc.out; have := Hd.out; omega⟩
      obtain ⟨k, hk, hk62, hkl⟩ := hkk
      have Hkl := Lib.hid hkl
      clear hkl
      have hlm : Gf.len m ≤ Gf.len q := by have := Hc.out; have := Hd.out; omega
      have hs : m * 2 ^ k < 18446744073709551616 := by
        have h2 := Gf.len_shift Hm0.out k
        have h3 := Gf.lt_of_len (a := m * 2 ^ k) (n := 64) (by rw [h2, Hkl.out]; omega)
        simpa using h3
      have Hst := Lib.hid (Gf.md_step Hm0.out hlm)
      have Hlt := Lib.hid (Gf.step_lt Hm0.out hlm)
      rw [← Hkl.out] at Hst Hlt
      obtain ⟨S, hS⟩ : ∃ S, m * 2 ^ k = S := ⟨_, rfl⟩
      have hw : IntKind.u64.wrap ((m : Int) * 2 ^ k) = (S : Int) := by
        have : (m : Int) * 2 ^ k = ((m * 2 ^ k : Nat) : Int) := by simp
        rw [this, IntKind.wrap_u64, hS]; omega
      rw [hS] at hs Hst Hlt
      clear hS
      have hx := u64_xor_nat q S hq hs
      have hxl : q ^^^ S < 18446744073709551616 := Nat.xor_lt_two_pow (n := 64) (by simpa using hq) (by simpa using hs)
      go_wp2_with (refine (degree_any q hq c Hc.out _).mono ?_; rintro e w' ⟨rfl, rfl⟩)
      go_round
      case rel => exact ⟨_, hxl, by show _ = _; rw [← Hst.out]; exact Hq.out, rfl⟩
      case measure => simp only [intOf, Int.toNat_natCast]; exact Hlt.out
    · go_wp2_with (refine (degree_any q hq c Hc.out _).mono ?_; rintro e w' ⟨rfl, rfl⟩)
      go_ret2
      have h1 : Gf.len q < Gf.len m := by have := Hc.out; have := Hd.out; omega
      exact ⟨by rw [← Hq.out, Gf.md_stop h1]; rfl, rfl⟩

theorem fit_len {m : Nat} (h : fitB m = true) : 2 ≤ Gf.len m ∧ Gf.len m ≤ 63 ∧ m ≠ 0 := by
  have hfl : 2 ≤ Gf.len m ∧ Gf.len m ≤ 63 := by unfold fitB at h; simpa using h
  exact ⟨hfl.1, hfl.2, fun e => by rw [e, Gf.len_zero] at hfl; omega⟩
theorem lt62 {a m : Nat} (h : Gf.len a < Gf.len m) (hm : Gf.len m ≤ 63) : a < 4611686018427387904 := by
  have := Gf.lt_of_len (a := a) (n := 62) (by omega)
  simpa using this
theorem lt64 {a m : Nat} (h : Gf.len a < Gf.len m) (hm : Gf.len m ≤ 63) : a < 18446744073709551616 := by
  have := lt62 h hm; omega

theorem times_no (p q m : Nat) (hm : m < 18446744073709551616) (hf : fitB m = false) (w : World) :
    Calls Try.prog 20 #[.int .u64 (p : Int), .int .u64 (q : Int), .int .u64 (m : Int)] w fun e w' => e = .returned (.tuple #[.int .u64 0, .int .i64 1]) ∧ w = w' := by
  have H := Lib.hid hf
  clear hf
  go_enter Try.func20, Try.ntmps20
  go_wp2_with (refine (mod_no p m hm H.out _).mono ?_; rintro e w' ⟨rfl, rfl⟩)
  go_ret2
  exact ⟨rfl, rfl⟩

theorem and_one (Q : Nat) (hQ : Q < 18446744073709551616) : bits .and .u64 (Q : Int) 1 = ((Q % 2 : Nat) : Int) := by
  have := u64_and_nat Q 1 hQ (by decide)
  rw [Nat.and_one_is_mod] at this
  exact this

/-- What the loop of Times holds. -/
def TRel (m p q P Q R : Nat) : Prop := Gf.len P < Gf.len m ∧ Gf.len R < Gf.len m ∧ Gf.Eqm m (R ^^^ Gf.cl P Q) (Gf.cl p q)
/-- One bit of q. -/
theorem trel_step {m p q P Q R P' R' : Nat} (h : TRel m p q P Q R) (hP : Gf.Eqm m P' (2 * P)) (hPl : Gf.len P' < Gf.len m) (hR : R' = R ^^^ (if Q % 2 = 1 then P else 0)) : TRel m p q P' (Q / 2) R' := by
  obtain ⟨h1, h2, h3⟩ := h
  refine ⟨hPl, ?_, ?_⟩
  · rw [hR]
    split
    · have := Gf.len_xor_le R P; omega
    · rw [Nat.xor_zero]; exact h2
  · refine Gf.Eqm.trans ?_ h3
    rw [hR, Gf.cl_eq P Q, ← Nat.xor_assoc]
    refine (Gf.Eqm.refl m _).xor ?_
    rw [← Gf.cl_dbl_left]
    exact hP.mul _
theorem dbl_le {P m : Nat} (h : Gf.len P < Gf.len m) : Gf.len (2 * P) ≤ Gf.len m := by
  by_cases h0 : P = 0
  · subst h0; rw [Nat.mul_zero, Gf.len_zero]; omega
  · rw [Gf.len_dbl h0]; omega

set_option maxHeartbeats 1000000 in
theorem times_yes (p q m : Nat) (hp : p < 18446744073709551616) (hq : q < 18446744073709551616) (hm : m < 18446744073709551616) (hf : fitB m = true) (w : World) :
    Calls Try.prog 20 #[.int .u64 (p : Int), .int .u64 (q : Int), .int .u64 (m : Int)] w fun e w' => e = .returned (.tuple #[.int .u64 (Gf.md (Gf.cl p q) m : Int), .int .i64 0]) ∧ w = w' := by
  obtain ⟨hf1, hf2, hm0⟩ := fit_len hf
  have hsp := Gf.md_spec p hm0
  have hsq := Gf.md_spec q hm0
  have hT : TRel m p q (Gf.md p m) (Gf.md q m) 0 := ⟨hsp.2, by rw [Gf.len_zero]; omega, by rw [Nat.zero_xor]; exact hsp.1.mul2 hsq.1⟩
  have hPl := lt64 hsp.2 hf2
  have hQl := lt64 hsq.2 hf2
  have Cp := Lib.hid (fun W => mod_yes p m hp hm hf W)
  have Cq := Lib.hid (fun W => mod_yes q m hq hm hf W)
  clear hsp hsq
  generalize Gf.md p m = P0 at *
  generalize Gf.md q m = Q0 at *
  have HT := Lib.hid hT
  obtain ⟨d, hd⟩ : ∃ d : Int, d = (Gf.len m : Int) - 1 := ⟨_, rfl⟩
  have hd2 : 1 ≤ d := by omega
  have hd3 : d ≤ 62 := by omega
  have Hd := Lib.hid hd
  have Hm0 := Lib.hid hm0
  have Hf2 := Lib.hid hf2
  clear hf hT hd hm0 hf1 hf2
  go_enter Try.func20, Try.ntmps20
  go_wp2_with fail
  refine (Cp.out _).mono ?_
  rintro e w' ⟨rfl, rfl⟩
  go_wp2_with fail
  refine (Cq.out _).mono ?_
  rintro e w' ⟨rfl, rfl⟩
  go_wp2_with (go_at_call 16; refine (degree_any m hm d Hd.out _).mono ?_; rintro e w' ⟨rfl, rfl⟩)
  go_loop [0, 1, 10] (fun x y z => ∃ P Q R : Nat, Q < 18446744073709551616 ∧ Hid (TRel m p q P Q R) ∧ x = .int .u64 (P : Int) ∧ y = .int .u64 (Q : Int) ∧ z = .int .u64 (R : Int)) (fun _ y _ => (intOf y).toNat)
  case atStart => exact ⟨P0, Q0, 0, hQl, HT, rfl, rfl, rfl⟩
  case round =>
    clear HT hPl hQl
    obtain ⟨P, Q, R, hQ, HT, rfl, rfl, rfl⟩ := hrel
    by_cases h0 : Q = 0
    · subst h0
      go_wp2_with fail
      go_ret2
      have h := HT.out
      have e := Gf.md_is (p := Gf.cl p q) (r := R) (m := m) (by have := h.2.2; rwa [Gf.cl_zero, Nat.xor_zero] at this) h.2.1
      exact ⟨by rw [e]; rfl, rfl⟩
    · have hPl := lt62 HT.out.1 Hf2.out
      have hRl := lt62 HT.out.2.1 Hf2.out
      have h2P := dbl_le HT.out.1
      have hQ0 : 0 < Q := by omega
      have hne : ((Q : Int) != 0) = true := by simp; omega
      have hand := and_one Q hQ
      have hxr := u64_xor_nat R P (by omega) (by omega)
      have hxm := u64_xor_nat (2 * P) m (by omega) hm
      have Hmd : Hid (P * 2 = 2 * P) := Nat.mul_comm _ _
      obtain ⟨c, hc⟩ : ∃ d : Int, d = (Gf.len (2 * P) : Int) - 1 := ⟨_, rfl⟩
      have hcd : c ≤ d := by have := Hd.out; omega
      have hc0 : -1 ≤ c := by omega
      have Hc := Lib.hid hc
      have H2P := Lib.hid h2P
      clear hc h2P h0
      have hPP : (P : Int) * 2 = ((2 * P : Nat) : Int) := by omega
      obtain ⟨D, HD, hDl⟩ : ∃ D, Hid (2 * P = D) ∧ D < 18446744073709551616 := ⟨_, rfl, by omega⟩
      rw [HD.out] at hPP hxm Hc
      have hxr2 : R ^^^ P < 18446744073709551616 := Nat.xor_lt_two_pow (n := 64) (by simp; omega) (by simp; omega)
      by_cases hodd : Q % 2 = 1
      · have he : (((Q % 2 : Nat) : Int) == 1) = true := by rw [hodd]; rfl
        rw [hodd] at hand
        have Hodd := Lib.hid hodd
        clear hodd he
        by_cases hcdd : c = d
        · have hcb : (c == d) = true := by simpa using hcdd
          have Hlen : Hid (Gf.len D = Gf.len m) := by show _ = _; have := Hc.out; have := Hd.out; omega
          clear hcdd
          go_wp2_with (refine (degree_any D hDl c Hc.out _).mono ?_; rintro e w' ⟨rfl, rfl⟩)
          go_round
          case rel =>
            refine ⟨_, _, _, by omega, trel_step HT.out (P' := D ^^^ m) ?_ ?_ rfl, rfl, rfl, ?_⟩
            · exact ⟨1, by rw [HD.out, Nat.xor_comm D m, Gf.xor_cancel, Gf.one_cl]⟩
            · rw [← Hlen.out]; exact Gf.len_xor_lt (fun e => Hm0.out (Gf.len_eq_zero.1 (by rw [← Hlen.out, e, Gf.len_zero]))) Hlen.out
            · rw [if_pos Hodd.out]
          case measure => simp [intOf]; omega
        · have hcb : (c == d) = false := by simpa using hcdd
          have Hlen : Hid (Gf.len D < Gf.len m) := by show _ < _; have := Hc.out; have := Hd.out; omega
          clear hcdd
          go_wp2_with (refine (degree_any D hDl c Hc.out _).mono ?_; rintro e w' ⟨rfl, rfl⟩)
          go_round
          case rel => exact ⟨D, _, _, by omega, trel_step HT.out (by rw [HD.out]; exact Gf.Eqm.refl _ _) Hlen.out rfl, rfl, rfl, by rw [if_pos Hodd.out]⟩
          case measure => simp [intOf]; omega
      · have hodd0 : Q % 2 = 0 := by omega
        rw [hodd0] at hand
        have Hodd := Lib.hid hodd
        clear hodd hodd0
        by_cases hcdd : c = d
        · have hcb : (c == d) = true := by simpa using hcdd
          have Hlen : Hid (Gf.len D = Gf.len m) := by show _ = _; have := Hc.out; have := Hd.out; omega
          clear hcdd
          go_wp2_with (refine (degree_any D hDl c Hc.out _).mono ?_; rintro e w' ⟨rfl, rfl⟩)
          go_round
          case rel =>
            refine ⟨_, _, _, by omega, trel_step HT.out (P' := D ^^^ m) ?_ ?_ rfl, rfl, rfl, ?_⟩
            · exact ⟨1, by rw [HD.out, Nat.xor_comm D m, Gf.xor_cancel, Gf.one_cl]⟩
            · rw [← Hlen.out]; exact Gf.len_xor_lt (fun e => Hm0.out (Gf.len_eq_zero.1 (by rw [← Hlen.out, e, Gf.len_zero]))) Hlen.out
            · rw [if_neg Hodd.out, Nat.xor_zero]
          case measure => simp [intOf]; omega
        · have hcb : (c == d) = false := by simpa using hcdd
          have Hlen : Hid (Gf.len D < Gf.len m) := by show _ < _; have := Hc.out; have := Hd.out; omega
          clear hcdd
          go_wp2_with (refine (degree_any D hDl c Hc.out _).mono ?_; rintro e w' ⟨rfl, rfl⟩)
          go_round
          case rel => exact ⟨D, _, _, by omega, trel_step HT.out (by rw [HD.out]; exact Gf.Eqm.refl _ _) Hlen.out rfl, rfl, rfl, by rw [if_neg Hodd.out, Nat.xor_zero]⟩
          case measure => simp [intOf]; omega
end Go.Proofs.Ytgjofpefglbjjaa
