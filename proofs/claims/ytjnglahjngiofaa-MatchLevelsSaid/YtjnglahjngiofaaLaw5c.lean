/- MatchLevels. Conditions: none. -/
import Derived.Test.YtjnglahjngiofaaLaw5b
namespace Go.Proofs.Ytjnglahjngiofaa
open Go.RowKit
set_option maxRecDepth 100000

set_option maxHeartbeats 16000000 in
theorem levels_any (s : ByteArray) (hs : s.size ≤ maxLen) (w : World) : Calls Try.prog 7 #[.string s] w fun e w' => e = .returned (.bool true) ∧ Below w.heap.size w w' := by
  have CA := Lib.hid awake5_any
  have hsm : s.size ≤ 9223372036854775807 := by unfold maxLen at hs; omega
  by_cases hcut : 1500 < s.size
  · have d0 : decide ((1500 : Int) < (s.size : Int)) = true := by rw [decide_eq_true_eq]; omega
    go_enter Try.func7, Try.ntmps7
    go_wp2_with fail
    obtain ⟨u, Hu⟩ : ∃ R, Hid (s.extract 0 1500 = R) := ⟨_, Lib.hid (Eq.refl _)⟩
    have hul : u.size ≤ 1500 := by rw [← Hu.out, ByteArray.size_extract]; omega
    (try rw [Hu.out])
    clear d0 hcut hs hsm Hu
    go_loopw [3] (fun k_ wr => ∃ k : Nat, k ≤ 10 ∧ k_ = .int .i64 (k : Int) ∧ Hid (Below w.heap.size w wr)) (fun k _ => 10 - (intOf k).toNat)
    case atStart => exact ⟨0, by omega, rfl, Lib.hid (Below.refl _ _)⟩
    case round =>
      obtain ⟨k, hk, rfl, HB⟩ := hrel
      by_cases h9 : k ≤ 9
      · have dk : decide ((k : Int) ≤ 9) = true := by rw [decide_eq_true_eq]; omega
        have CT := Lib.hid (fun W => tokens_any u k h9 (by omega) W)
        have hexp := tokF_exp u k u.size 0 (by omega) (by omega)
        have hlen := tokF_len u k u.size 0
        obtain ⟨S, HS⟩ : ∃ R, Hid (tokF u k u.size 0 = R) := ⟨_, Lib.hid (Eq.refl _)⟩
        rw [HS.out] at CT hexp hlen
        have hexp0 : texp (u.size : Int) [] S = (u.data.toList, 0) := hexp
        have Hexp := Lib.hid hexp0
        have hM0 : S.length ≤ 1500 := by omega
        obtain ⟨M, HM⟩ : ∃ R, Hid (S.length = R) := ⟨_, Lib.hid (Eq.refl _)⟩
        rw [HM.out] at hM0
        clear hexp hexp0 hlen
        go_wp2_with fail
        refine (CT.out _).mono ?_
        rintro e w2 ⟨v1, rfl, hO1, hb1⟩
        obtain ⟨a1, cap1, rfl, hR1⟩ := hO1.view
        have HR1 := Lib.hid hR1
        have HB1 := Lib.hid (HB.out.trans (hb1.mono HB.out.size))
        rw [HM.out]
        clear hO1 hR1 hb1
        go_wp2_with fail
        refine (CT.out _).mono ?_
        rintro e w3 ⟨v2, rfl, hO2, hb2⟩
        obtain ⟨a2, cap2, rfl, hR2⟩ := hO2.view
        have HR2 := Lib.hid hR2
        have HR1b := Lib.hid (HR1.out.below hb2 (Nat.le_refl _))
        have HB2 := Lib.hid (HB1.out.trans (hb2.mono HB1.out.size))
        have CE0 := expand_any S (by rw [HM.out]; omega) a1 cap1 (u.size : Int) (by omega) w3 HR1b.out
        have e1 : expV (u.data.toList, 0) = .tuple #[.string u, .int .i64 0] := rfl
        rw [Hexp.out, e1, HM.out] at CE0
        have CE := Lib.hid CE0
        rw [HM.out]
        clear hO2 hR2 hb2 CE0 e1 HR1 HB1
        go_wp2_with fail
        refine CE.out.mono ?_
        rintro e w4 ⟨rfl, hb4⟩
        have HR1c := Lib.hid (HR1b.out.below hb4 (Nat.le_refl _))
        have HR2c := Lib.hid (HR2.out.below hb4 (Nat.le_refl _))
        have HB4 := Lib.hid (HB2.out.trans (hb4.mono HB2.out.size))
        clear hb4 CE HR1b HR2 HB2
        go_wp2_with fail
        go_loopw [63] (fun i_ wr => ∃ j nq : Nat, j ≤ M ∧ i_ = .int .i64 (j : Int) ∧ Hid (wr = w4.drewN nq)) (fun i _ => M - (intOf i).toNat)
        case atStart => exact ⟨0, 0, by omega, rfl, rfl⟩
        case round =>
          obtain ⟨j, nq0, hj, rfl, HW⟩ := hrel
          have hW := HW.out
          have HA5 : Hid (TkRow wr a1 S) := by show TkRow _ _ _; rw [hW]; exact HR1c.out
          have HA6 : Hid (TkRow wr a2 S) := by show TkRow _ _ _; rw [hW]; exact HR2c.out
          have HB5 : Hid (Below w.heap.size w wr) := by show Below _ _ _; rw [hW]; exact below_drewN HB4.out nq0
          clear hW
          by_cases hlt : j < M
          · have d1 : decide ((j : Int) < (M : Int)) = true := by rw [decide_eq_true_eq]; omega
            have hlI : (j : Int) < (M : Int) := by omega
            obtain ⟨b1, o1, rfl, _, c0, c1, c2⟩ := HA5.out.get j (by rw [HM.out]; exact hlt)
            obtain ⟨b2, o2, rfl, _, e0, e1, e2⟩ := HA6.out.get j (by rw [HM.out]; exact hlt)
            obtain ⟨p0, Hp0⟩ : ∃ R : Int, Hid (((tk S j).b.toNat : Int) = R) := ⟨_, Lib.hid (Eq.refl _)⟩
            obtain ⟨p1, Hp1⟩ : ∃ R, Hid ((tk S j).l = R) := ⟨_, Lib.hid (Eq.refl _)⟩
            obtain ⟨p2, Hp2⟩ : ∃ R, Hid ((tk S j).d = R) := ⟨_, Lib.hid (Eq.refl _)⟩
            rw [Hp0.out] at c0 e0
            rw [Hp1.out] at c1 e1
            rw [Hp2.out] at c2 e2
            go_wp2_with fail
            go_quiet (fail)
            go_wp2_with fail
            go_roundw
            case rel => exact ⟨j + 1, nq0 + nq, by omega, by go_num, by show _ = _; rw [HW.out, World.drewN_drewN]⟩
            case measure => simp [intOf]; omega
          · obtain rfl : j = M := by omega
            have d1 : decide ((j : Int) < (j : Int)) = false := by rw [decide_eq_false_iff_not]; omega
            go_wp2_with fail
            go_roundw
            case rel => exact ⟨k + 1, by omega, by go_num, HB5⟩
            case measure => simp [intOf]; omega
      · have dk : decide ((k : Int) ≤ 9) = false := by rw [decide_eq_false_iff_not]; omega
        go_wp2_with fail
        refine (CA.out _).mono ?_
        rintro e w5 ⟨rfl, hb5⟩
        have hB := bthen HB.out hb5
        go_wp2_with fail
        go_ret
        exact ⟨rfl, hB⟩
  · have d0 : decide ((1500 : Int) < (s.size : Int)) = false := by rw [decide_eq_false_iff_not]; omega
    obtain ⟨u, Hu⟩ : ∃ R, Hid (s = R) := ⟨_, Lib.hid (Eq.refl _)⟩
    rw [Hu.out] at d0 hcut hs ⊢
    have hul : u.size ≤ 1500 := by omega
    go_enter Try.func7, Try.ntmps7
    go_wp2_with fail
    clear d0 hcut hs hsm Hu
    go_loopw [3] (fun k_ wr => ∃ k : Nat, k ≤ 10 ∧ k_ = .int .i64 (k : Int) ∧ Hid (Below w.heap.size w wr)) (fun k _ => 10 - (intOf k).toNat)
    case atStart => exact ⟨0, by omega, rfl, Lib.hid (Below.refl _ _)⟩
    case round =>
      obtain ⟨k, hk, rfl, HB⟩ := hrel
      by_cases h9 : k ≤ 9
      · have dk : decide ((k : Int) ≤ 9) = true := by rw [decide_eq_true_eq]; omega
        have CT := Lib.hid (fun W => tokens_any u k h9 (by omega) W)
        have hexp := tokF_exp u k u.size 0 (by omega) (by omega)
        have hlen := tokF_len u k u.size 0
        obtain ⟨S, HS⟩ : ∃ R, Hid (tokF u k u.size 0 = R) := ⟨_, Lib.hid (Eq.refl _)⟩
        rw [HS.out] at CT hexp hlen
        have hexp0 : texp (u.size : Int) [] S = (u.data.toList, 0) := hexp
        have Hexp := Lib.hid hexp0
        have hM0 : S.length ≤ 1500 := by omega
        obtain ⟨M, HM⟩ : ∃ R, Hid (S.length = R) := ⟨_, Lib.hid (Eq.refl _)⟩
        rw [HM.out] at hM0
        clear hexp hexp0 hlen
        go_wp2_with fail
        refine (CT.out _).mono ?_
        rintro e w2 ⟨v1, rfl, hO1, hb1⟩
        obtain ⟨a1, cap1, rfl, hR1⟩ := hO1.view
        have HR1 := Lib.hid hR1
        have HB1 := Lib.hid (HB.out.trans (hb1.mono HB.out.size))
        rw [HM.out]
        clear hO1 hR1 hb1
        go_wp2_with fail
        refine (CT.out _).mono ?_
        rintro e w3 ⟨v2, rfl, hO2, hb2⟩
        obtain ⟨a2, cap2, rfl, hR2⟩ := hO2.view
        have HR2 := Lib.hid hR2
        have HR1b := Lib.hid (HR1.out.below hb2 (Nat.le_refl _))
        have HB2 := Lib.hid (HB1.out.trans (hb2.mono HB1.out.size))
        have CE0 := expand_any S (by rw [HM.out]; omega) a1 cap1 (u.size : Int) (by omega) w3 HR1b.out
        have e1 : expV (u.data.toList, 0) = .tuple #[.string u, .int .i64 0] := rfl
        rw [Hexp.out, e1, HM.out] at CE0
        have CE := Lib.hid CE0
        rw [HM.out]
        clear hO2 hR2 hb2 CE0 e1 HR1 HB1
        go_wp2_with fail
        refine CE.out.mono ?_
        rintro e w4 ⟨rfl, hb4⟩
        have HR1c := Lib.hid (HR1b.out.below hb4 (Nat.le_refl _))
        have HR2c := Lib.hid (HR2.out.below hb4 (Nat.le_refl _))
        have HB4 := Lib.hid (HB2.out.trans (hb4.mono HB2.out.size))
        clear hb4 CE HR1b HR2 HB2
        go_wp2_with fail
        go_loopw [63] (fun i_ wr => ∃ j nq : Nat, j ≤ M ∧ i_ = .int .i64 (j : Int) ∧ Hid (wr = w4.drewN nq)) (fun i _ => M - (intOf i).toNat)
        case atStart => exact ⟨0, 0, by omega, rfl, rfl⟩
        case round =>
          obtain ⟨j, nq0, hj, rfl, HW⟩ := hrel
          have hW := HW.out
          have HA5 : Hid (TkRow wr a1 S) := by show TkRow _ _ _; rw [hW]; exact HR1c.out
          have HA6 : Hid (TkRow wr a2 S) := by show TkRow _ _ _; rw [hW]; exact HR2c.out
          have HB5 : Hid (Below w.heap.size w wr) := by show Below _ _ _; rw [hW]; exact below_drewN HB4.out nq0
          clear hW
          by_cases hlt : j < M
          · have d1 : decide ((j : Int) < (M : Int)) = true := by rw [decide_eq_true_eq]; omega
            have hlI : (j : Int) < (M : Int) := by omega
            obtain ⟨b1, o1, rfl, _, c0, c1, c2⟩ := HA5.out.get j (by rw [HM.out]; exact hlt)
            obtain ⟨b2, o2, rfl, _, e0, e1, e2⟩ := HA6.out.get j (by rw [HM.out]; exact hlt)
            obtain ⟨p0, Hp0⟩ : ∃ R : Int, Hid (((tk S j).b.toNat : Int) = R) := ⟨_, Lib.hid (Eq.refl _)⟩
            obtain ⟨p1, Hp1⟩ : ∃ R, Hid ((tk S j).l = R) := ⟨_, Lib.hid (Eq.refl _)⟩
            obtain ⟨p2, Hp2⟩ : ∃ R, Hid ((tk S j).d = R) := ⟨_, Lib.hid (Eq.refl _)⟩
            rw [Hp0.out] at c0 e0
            rw [Hp1.out] at c1 e1
            rw [Hp2.out] at c2 e2
            go_wp2_with fail
            go_quiet (fail)
            go_wp2_with fail
            go_roundw
            case rel => exact ⟨j + 1, nq0 + nq, by omega, by go_num, by show _ = _; rw [HW.out, World.drewN_drewN]⟩
            case measure => simp [intOf]; omega
          · obtain rfl : j = M := by omega
            have d1 : decide ((j : Int) < (j : Int)) = false := by rw [decide_eq_false_iff_not]; omega
            go_wp2_with fail
            go_roundw
            case rel => exact ⟨k + 1, by omega, by go_num, HB5⟩
            case measure => simp [intOf]; omega
      · have dk : decide ((k : Int) ≤ 9) = false := by rw [decide_eq_false_iff_not]; omega
        go_wp2_with fail
        refine (CA.out _).mono ?_
        rintro e w5 ⟨rfl, hb5⟩
        have hB := bthen HB.out hb5
        go_wp2_with fail
        go_ret
        exact ⟨rfl, hB⟩
end Go.Proofs.Ytjnglahjngiofaa
