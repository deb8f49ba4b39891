/- HuffLengths: the law's right. Conditions: none. -/
import Derived.Test.YtahgeeklenojjaaLenX
import Derived.BigQuiet
namespace Go.Proofs.Ytahgeeklenojjaa
open Go.RowKit
set_option maxRecDepth 100000

theorem part_shift (l : Nat) (h0 : 0 < l) (h15 : l ≤ 15) : 32768 / 2 ^ l = pt l := by
  unfold pt
  rw [if_pos h0, show (32768 : Nat) = 2 ^ (15 - l) * 2 ^ l by rw [← Nat.pow_add, Nat.sub_add_cancel h15], Nat.mul_div_cancel _ (Nat.pow_pos (by decide))]
theorem pt_le2 (l : Nat) : pt l ≤ 32768 := by
  unfold pt
  split
  · exact Nat.le_trans (Nat.pow_le_pow_right (n := 2) (i := 15 - l) (j := 15) (by decide) (by omega)) (by decide)
  · omega
set_option maxHeartbeats 16000000 in
theorem right_any (a b : Option Addr) (n c1 c2 : Nat) (cnt : Nat → Int) (L : Nat → Nat) (most : Nat) (hn : n ≤ 320) (hm15 : most ≤ 15) (hc : CntOK cnt n) (hok : LenOK cnt n most L) (w : World) (ha : IRow w a n cnt) (hb : IRow w b n fun i => (L i : Int)) :
    Calls Try.prog 19 #[.slice a n c1, .slice b n c2, .int .i64 (most : Int)] w fun e w' => e = .returned (.bool true) ∧ ∃ nq, w' = w.drewN nq := by
  have Ha := Lib.hid ha
  have Hb := Lib.hid hb
  have Hc := Lib.hid hc
  have Hok := Lib.hid hok
  have HFIN : Hid ((someOf L n = 0 ∧ parts L n = 0) ∨ (someOf L n = 1 ∧ parts L n = 16384) ∨ (2 ≤ someOf L n ∧ parts L n = 32768)) := by
    show _ ∨ _
    rw [hok.some, hok.parts]
    by_cases h0 : (coinsB cnt n).length = 0
    · rw [if_pos h0]; omega
    · rw [if_neg h0]
      by_cases h1 : (coinsB cnt n).length = 1
      · rw [if_pos h1]; omega
      · rw [if_neg h1]; omega
  have hee : ((n : Int) == (n : Int)) = true := by simp
  clear ha hb hc hok
  go_enter Try.func19, Try.ntmps19
  go_wp2_with fail
  go_loopw [7, 8, 20] (fun p_ s_ i_ wr => ∃ i p s nq : Nat, i ≤ n ∧ i_ = .int .i64 (i : Int) ∧ p_ = .int .i64 (p : Int) ∧ s_ = .int .i64 (s : Int) ∧ p ≤ 32768 * i ∧ s ≤ i ∧ Hid (parts L i = p) ∧ Hid (someOf L i = s) ∧ Hid (wr = w.drewN nq)) (fun _ _ i_ _ => n - (intOf i_).toNat)
  case atStart => exact ⟨0, 0, 0, 0, by omega, rfl, rfl, rfl, by omega, by omega, rfl, rfl, rfl⟩
  case round =>
    obtain ⟨i, p, s, nq0, hi, rfl, rfl, rfl, hp, hs, Hp, Hs, HW⟩ := hrel
    have hW := HW.out
    have Haw : Hid (IRow wr a n cnt) := by show IRow _ _ _ _; rw [hW]; exact Ha.out
    have Hbw : Hid (IRow wr b n fun i => (L i : Int)) := by show IRow _ _ _ _; rw [hW]; exact Hb.out
    clear hW
    by_cases hlt : i < n
    · have di : decide ((i : Int) < (n : Int)) = true := by rw [decide_eq_true_eq]; omega
      obtain ⟨b1, o1, rfl, _, k1⟩ := Haw.out.get i hlt
      obtain ⟨b2, o2, rfl, _, k2⟩ := Hbw.out.get i hlt
      obtain ⟨hx0, hx1⟩ := Hc.out i hlt
      have hps := parts_succ L i
      have hss := some_succ L i
      rw [Hp.out] at hps
      rw [Hs.out] at hss
      have hlz := Hok.out.zero i
      have hlp := Hok.out.pos i hlt
      have hlm := Hok.out.le i
      have HMO : Hid (∀ j, j < n → 0 < cnt j → cnt j < cnt i → L i ≤ L j) := fun j hj h1 h2 => Hok.out.mono i j hlt hj h1 h2
      have hlI : (i : Int) < (n : Int) := by omega
      obtain ⟨x, Hx⟩ : ∃ R, Hid (cnt i = R) := ⟨_, Lib.hid (Eq.refl _)⟩
      obtain ⟨l, Hl⟩ : ∃ R, Hid (L i = R) := ⟨_, Lib.hid (Eq.refl _)⟩
      rw [Hx.out] at k1 hx0 hx1 hlz hlp HMO
      simp only [Hl.out] at k2 hps hss hlz hlp hlm HMO
      by_cases hxp : 0 < x
      · have hl0 : 0 < l := hlp hxp
        have e1 : (x == 0) = false := by simp; omega
        have e2 : ((l : Int) == 0) = false := by simp; omega
        have e3 : decide ((l : Int) < 0) = false := by rw [decide_eq_false_iff_not]; omega
        have e4 : decide ((most : Int) < (l : Int)) = false := by rw [decide_eq_false_iff_not]; omega
        have e4b : decide (most < l) = false := by rw [decide_eq_false_iff_not]; omega
        have e5 : decide (0 < x) = true := by rw [decide_eq_true_eq]; exact hxp
        have e6 := part_shift l hl0 (by omega)
        have e7 := pt_le2 l
        obtain ⟨Y, HY⟩ : ∃ R, Hid (pt l = R) := ⟨_, Lib.hid (Eq.refl _)⟩
        rw [HY.out] at hps e6 e7
        rw [if_pos hl0] at hss
        have Hps := Lib.hid hps
        have Hss := Lib.hid hss
        have hshr : (32768 : Int) / 2 ^ l = (Y : Int) := by
          rw [← e6]; simp
        have hml : min l 64 = l := by omega
        clear hlz hlp hps hss e6
        go_wp2_with fail
        go_loopw [61] (fun j_ wq => ∃ j nq1 : Nat, j ≤ n ∧ j_ = .int .i64 (j : Int) ∧ Hid (wq = wr.drewN nq1)) (fun j_ _ => n - (intOf j_).toNat)
        case atStart => exact ⟨0, 0, by omega, rfl, rfl⟩
        case round =>
          rename World => wq
          obtain ⟨j, nq1, hj, rfl, HW1⟩ := hrel
          have hW1 := HW1.out
          have Haq : Hid (IRow wq (some ⟨b1, o1, none⟩) n cnt) := by show IRow _ _ _ _; rw [hW1]; exact Haw.out
          have Hbq : Hid (IRow wq (some ⟨b2, o2, none⟩) n fun i => (L i : Int)) := by show IRow _ _ _ _; rw [hW1]; exact Hbw.out
          clear hW1
          by_cases hjl : j < n
          · have dj : decide ((j : Int) < (n : Int)) = true := by rw [decide_eq_true_eq]; omega
            obtain ⟨b3, o3, ee, _, q1⟩ := Haq.out.get j hjl
            injection ee with ee
            injection ee with ee1 ee2
            subst ee1 ee2
            obtain ⟨b3, o3, ee, _, q2⟩ := Hbq.out.get j hjl
            injection ee with ee
            injection ee with ee1 ee2
            subst ee1 ee2
            obtain ⟨b3, o3, ee, _, q3⟩ := Hbq.out.get i hlt
            injection ee with ee
            injection ee with ee1 ee2
            subst ee1 ee2
            have hmo := HMO.out j hjl
            have hy0 := (Hc.out j hjl).1
            have hjI : (j : Int) < (n : Int) := by omega
            obtain ⟨y, Hy⟩ : ∃ R, Hid (cnt j = R) := ⟨_, Lib.hid (Eq.refl _)⟩
            obtain ⟨lj, Hlj⟩ : ∃ R, Hid (L j = R) := ⟨_, Lib.hid (Eq.refl _)⟩
            rw [Hy.out] at q1 hmo hy0
            simp only [Hlj.out, Hl.out] at q2 q3 hmo
            by_cases hyx : y < x
            · have f1 : decide (y < x) = true := by rw [decide_eq_true_eq]; exact hyx
              by_cases hyp : 0 < y
              · have f2 : decide (0 < y) = true := by rw [decide_eq_true_eq]; exact hyp
                have hll : l ≤ lj := hmo hyp hyx
                have f3 : decide ((lj : Int) < (l : Int)) = false := by rw [decide_eq_false_iff_not]; omega
                have f3b : decide (lj < l) = false := by rw [decide_eq_false_iff_not]; omega
                clear hmo
                go_wp2_with fail
                go_quiet (fail)
                go_wp2_with fail
                go_roundw
                case rel => exact ⟨j + 1, nq1 + nq, by omega, by go_num, by show _ = _; rw [HW1.out, World.drewN_drewN]⟩
                case measure => simp [intOf]; omega
              · have f2 : decide (0 < y) = false := by rw [decide_eq_false_iff_not]; exact hyp
                clear hmo
                go_wp2_with fail
                go_quiet (fail)
                go_wp2_with fail
                go_roundw
                case rel => exact ⟨j + 1, nq1 + nq, by omega, by go_num, by show _ = _; rw [HW1.out, World.drewN_drewN]⟩
                case measure => simp [intOf]; omega
            · have f1 : decide (y < x) = false := by rw [decide_eq_false_iff_not]; exact hyx
              clear hmo
              go_wp2_with fail
              go_quiet (fail)
              go_wp2_with fail
              go_roundw
              case rel => exact ⟨j + 1, nq1 + nq, by omega, by go_num, by show _ = _; rw [HW1.out, World.drewN_drewN]⟩
              case measure => simp [intOf]; omega
          · have dj : decide ((j : Int) < (n : Int)) = false := by rw [decide_eq_false_iff_not]; omega
            go_wp2_with fail
            go_roundw
            case rel => exact ⟨i + 1, p + Y, s + 1, nq0 + nq1, by omega, by go_num, by go_num, by go_num, by omega, by omega, Hps, Hss, by show _ = _; rw [HW1.out, HW.out, World.drewN_drewN]⟩
            case measure => simp [intOf]; omega
      · have hx00 : x = 0 := by omega
        have hl0 : l = 0 := hlz (fun h => hxp h.2)
        subst hx00 hl0
        have Hps : Hid (parts L (i + 1) = p) := by show _ = _; rw [hps]; rfl
        have Hss : Hid (someOf L (i + 1) = s) := by show _ = _; rw [hss]; rfl
        clear hlz hlp hps hss hxp
        go_wp2_with fail
        go_loopw [61] (fun j_ wq => ∃ j nq1 : Nat, j ≤ n ∧ j_ = .int .i64 (j : Int) ∧ Hid (wq = wr.drewN nq1)) (fun j_ _ => n - (intOf j_).toNat)
        case atStart => exact ⟨0, 0, by omega, rfl, rfl⟩
        case round =>
          rename World => wq
          obtain ⟨j, nq1, hj, rfl, HW1⟩ := hrel
          have hW1 := HW1.out
          have Haq : Hid (IRow wq (some ⟨b1, o1, none⟩) n cnt) := by show IRow _ _ _ _; rw [hW1]; exact Haw.out
          have Hbq : Hid (IRow wq (some ⟨b2, o2, none⟩) n fun i => (L i : Int)) := by show IRow _ _ _ _; rw [hW1]; exact Hbw.out
          clear hW1
          by_cases hjl : j < n
          · have dj : decide ((j : Int) < (n : Int)) = true := by rw [decide_eq_true_eq]; omega
            obtain ⟨b3, o3, ee, _, q1⟩ := Haq.out.get j hjl
            injection ee with ee
            injection ee with ee1 ee2
            subst ee1 ee2
            obtain ⟨b3, o3, ee, _, q2⟩ := Hbq.out.get j hjl
            injection ee with ee
            injection ee with ee1 ee2
            subst ee1 ee2
            obtain ⟨b3, o3, ee, _, q3⟩ := Hbq.out.get i hlt
            injection ee with ee
            injection ee with ee1 ee2
            subst ee1 ee2
            have hmo := HMO.out j hjl
            have hy0 := (Hc.out j hjl).1
            have hjI : (j : Int) < (n : Int) := by omega
            obtain ⟨y, Hy⟩ : ∃ R, Hid (cnt j = R) := ⟨_, Lib.hid (Eq.refl _)⟩
            obtain ⟨lj, Hlj⟩ : ∃ R, Hid (L j = R) := ⟨_, Lib.hid (Eq.refl _)⟩
            rw [Hy.out] at q1 hmo hy0
            simp only [Hlj.out, Hl.out] at q2 q3 hmo
            have f1 : decide (y < 0) = false := by rw [decide_eq_false_iff_not]; omega
            clear hmo
            go_wp2_with fail
            go_quiet (fail)
            go_wp2_with fail
            go_roundw
            case rel => exact ⟨j + 1, nq1 + nq, by omega, by go_num, by show _ = _; rw [HW1.out, World.drewN_drewN]⟩
            case measure => simp [intOf]; omega
          · have dj : decide ((j : Int) < (n : Int)) = false := by rw [decide_eq_false_iff_not]; omega
            go_wp2_with fail
            go_roundw
            case rel => exact ⟨i + 1, p, s, nq0 + nq1, by omega, by go_num, rfl, rfl, by omega, by omega, Hps, Hss, by show _ = _; rw [HW1.out, HW.out, World.drewN_drewN]⟩
            case measure => simp [intOf]; omega
    · obtain rfl : i = n := by omega
      have di : decide ((i : Int) < (i : Int)) = false := by rw [decide_eq_false_iff_not]; omega
      have hf := HFIN.out
      rw [Hp.out, Hs.out] at hf
      rcases hf with ⟨rfl, rfl⟩ | ⟨rfl, rfl⟩ | ⟨hf1, rfl⟩
      · go_wp2_with fail
        go_ret
        exact ⟨rfl, _, HW.out⟩
      · go_wp2_with fail
        go_ret
        exact ⟨rfl, _, HW.out⟩
      · have g1 : ((s : Int) == 0) = false := by simp; omega
        have g2 : ((s : Int) == 1) = false := by simp; omega
        go_wp2_with fail
        go_ret
        exact ⟨rfl, _, HW.out⟩
end Go.Proofs.Ytahgeeklenojjaa
