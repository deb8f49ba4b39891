/- HuffCodes. Conditions: none. -/
import Derived.Test.YtginjnpboggnbaaCode4
import Derived.Test.YtginjnpboggnbaaLaw4a
import Derived.BigQuiet
namespace Go.Proofs.Ytginjnpboggnbaa
open Go.RowKit
set_option maxRecDepth 100000

theorem hcodes_bad (a : Option Addr) (len cap : Nat) (m : Nat → Int) (hcap : len ≤ cap) (hlen : cap ≤ 9223372036854775807) (w : World) (hr : IRow w a len m) (hnil : a = none → len = 0 ∧ cap = 0) (k : Nat) (hk : KindOf (min len 400) m k) (h0 : 0 < k) :
    Calls Try.prog 6 #[.slice a len cap] w fun e w' => e = .returned (.bool true) ∧ Below w.heap.size w w' := by
  have Hk := Lib.hid hk
  have Hr := Lib.hid hr
  have CF := Lib.hid (fun W h => few4_any a len cap m hcap hlen W h hnil)
  obtain ⟨n, Hn⟩ : ∃ n, Hid (min len 400 = n) := ⟨_, Lib.hid (Eq.refl _)⟩
  have hnl : n ≤ 1000000 := by have := Hn.out; omega
  rw [Hn.out] at Hk CF
  have CA := Lib.hid awake4_any
  clear hr hk
  go_enter Try.func6, Try.ntmps6
  go_wp2_with fail
  refine (CF.out _ Hr.out).mono ?_
  rintro e w1 ⟨v, rfl, ho, hb1⟩
  obtain ⟨g1, cap1, rfl, hr1, _, _⟩ := ho.row
  have CC := Lib.hid (codes_any (some ⟨g1, 0, none⟩) n cap1 m hnl w1 hr1)
  have HB1 := Lib.hid hb1
  clear ho hr1 hb1
  go_wp2_with fail
  refine CC.out.mono ?_
  intro e w2 h
  obtain ⟨hb2, ⟨_, hk4, rfl⟩ | ⟨hk0, _⟩⟩ := codes_k Hk.out h
  · have HB2 := Lib.hid (bthen HB1.out hb2)
    clear CC h hb2
    unfold bad
    go_wp2_with fail
    refine (CF.out _ (Hr.out.below HB2.out)).mono ?_
    rintro e w3 ⟨v, rfl, ho, hb3⟩
    obtain ⟨g3, cap3, rfl, hr3, _, _⟩ := ho.row
    have CP := Lib.hid (plant_any (some ⟨g3, 0, none⟩) n cap3 m hnl w3 hr3)
    have HB3 := Lib.hid (bthen HB2.out hb3)
    clear ho hr3 hb3
    go_wp2_with fail
    refine CP.out.mono ?_
    intro e w4 h
    obtain ⟨hb4, ⟨_, _, rfl⟩ | ⟨hk0, _⟩⟩ := plant_k Hk.out h
    · have HB4 := Lib.hid (bthen HB3.out hb4)
      have dk : ((k : Int) == 0) = false := by simp; omega
      clear CP h hb4
      unfold badT
      go_wp2_with fail
      refine (CF.out _ (Hr.out.below HB4.out)).mono ?_
      rintro e w5 ⟨v, rfl, ho, hb5⟩
      obtain ⟨g5, cap5, rfl, hr5, _, _⟩ := ho.row
      have CFi := Lib.hid (fit_any (some ⟨g5, 0, none⟩) n cap5 m hnl k Hk.out w5 hr5)
      have HB5 := Lib.hid (bthen HB4.out hb5)
      clear ho hr5 hb5
      go_wp2_with fail
      refine CFi.out.mono ?_
      rintro e w6 ⟨rfl, rfl⟩
      go_wp2_with fail
      refine (CA.out _).mono ?_
      rintro e w7 ⟨rfl, hb7⟩
      have hB := bthen HB5.out hb7
      go_wp2_with fail
      go_ret
      exact ⟨rfl, hB⟩
    · omega
  · omega

set_option maxHeartbeats 16000000 in
theorem hcodes_ok (a : Option Addr) (len cap : Nat) (m : Nat → Int) (hcap : len ≤ cap) (hlen : cap ≤ 9223372036854775807) (w : World) (hr : IRow w a len m) (hnil : a = none → len = 0 ∧ cap = 0) (hk : KindOf (min len 400) m 0) :
    Calls Try.prog 6 #[.slice a len cap] w fun e w' => e = .returned (.bool true) ∧ Below w.heap.size w w' := by
  have Hk := Lib.hid hk
  have Hr := Lib.hid hr
  have CF := Lib.hid (fun W h => few4_any a len cap m hcap hlen W h hnil)
  obtain ⟨n, Hn⟩ : ∃ n, Hid (min len 400 = n) := ⟨_, Lib.hid (Eq.refl _)⟩
  have hnl : n ≤ 1000000 := by have := Hn.out; omega
  rw [Hn.out] at Hk CF
  have hn320 : n ≤ 320 := by
    rcases Hk.out with ⟨h, _⟩ | ⟨h, _⟩ | ⟨h, _⟩ | ⟨_, h, _⟩ <;> omega
  have Hrange : Hid (∀ i, i < n → 0 ≤ m i ∧ m i ≤ 15) := by
    rcases Hk.out with ⟨h, _⟩ | ⟨h, _⟩ | ⟨h, _⟩ | ⟨_, _, h, _⟩ <;> first | exact h | omega
  have CA := Lib.hid awake4_any
  clear hr hk
  go_enter Try.func6, Try.ntmps6
  go_wp2_with fail
  refine (CF.out _ Hr.out).mono ?_
  rintro e w1 ⟨v, rfl, ho, hb1⟩
  obtain ⟨g1, cap1, rfl, hr1, _, _⟩ := ho.row
  have CC := Lib.hid (codes_any (some ⟨g1, 0, none⟩) n cap1 m hnl w1 hr1)
  have HB1 := Lib.hid hb1
  have HR1 := Lib.hid hr1
  clear ho hr1 hb1
  go_wp2_with fail
  refine CC.out.mono ?_
  intro e w2 h
  obtain ⟨hb2, ⟨hk4, _⟩ | ⟨_, gc, rfl, hgc, hBc⟩⟩ := codes_k Hk.out h
  · omega
  have HB2 := Lib.hid (bthen HB1.out hb2)
  have HBc2 := Lib.hid hBc
  have HR2 := Lib.hid (HR1.out.below hb2)
  clear CC h hb2 hBc hgc HR1
  go_wp2_with fail
  refine (CF.out _ (Hr.out.below HB2.out)).mono ?_
  rintro e w3 ⟨v, rfl, ho, hb3⟩
  obtain ⟨g3, cap3, rfl, hr3, _, _⟩ := ho.row
  have CP := Lib.hid (plant_any (some ⟨g3, 0, none⟩) n cap3 m hnl w3 hr3)
  have HB3 := Lib.hid (bthen HB2.out hb3)
  have HBc3 := Lib.hid (HBc2.out.below hb3 HBc2.out.lt)
  have HR3 := Lib.hid (HR2.out.below hb3)
  clear ho hr3 hb3 HBc2 HR2
  go_wp2_with fail
  refine CP.out.mono ?_
  intro e w4 h
  obtain ⟨hb4, ⟨hk4, _⟩ | ⟨_, T, g, N, capT, B, pv, pn, rfl, _⟩⟩ := plant_k Hk.out h
  · omega
  have HB4 := Lib.hid (bthen HB3.out hb4)
  have HBc4 := Lib.hid (HBc3.out.below hb4 HBc3.out.lt)
  have HR4 := Lib.hid (HR3.out.below hb4)
  clear CP h hb4 HBc3 HR3
  go_wp2_with fail
  refine (CF.out _ (Hr.out.below HB4.out)).mono ?_
  rintro e w5 ⟨v, rfl, ho, hb5⟩
  obtain ⟨g5, cap5, rfl, hr5, _, _⟩ := ho.row
  have CFi := Lib.hid (fit_any (some ⟨g5, 0, none⟩) n cap5 m hnl 0 Hk.out w5 hr5)
  have HB5 := Lib.hid (bthen HB4.out hb5)
  have HBc5 := Lib.hid (HBc4.out.below hb5 HBc4.out.lt)
  have HR5 := Lib.hid (HR4.out.below hb5)
  clear ho hr5 hb5 HBc4 HR4
  go_wp2_with fail
  refine CFi.out.mono ?_
  rintro e w6 ⟨rfl, rfl⟩
  clear CFi
  go_wp2_with fail
  refine (CA.out _).mono ?_
  rintro e w7 ⟨rfl, hb7⟩
  have HB7 := Lib.hid (bthen HB5.out hb7)
  have HBc7 := Lib.hid (HBc5.out.below hb7 HBc5.out.lt)
  have HR7 := Lib.hid (HR5.out.below hb7)
  clear hb7 HBc5 HR5
  go_wp2_with fail
  refine (CF.out _ (Hr.out.below HB7.out)).mono ?_
  rintro e w8 ⟨v, rfl, ho, hb8⟩
  obtain ⟨g8, cap8, rfl, hr8, _, _⟩ := ho.row
  have HB8 := Lib.hid (bthen HB7.out hb8)
  have HBc8 := Lib.hid (HBc7.out.below hb8 HBc7.out.lt)
  have HR8 := Lib.hid (HR7.out.below hb8)
  have HL8 := Lib.hid hr8
  obtain ⟨L, HL⟩ : ∃ R, Hid (lens m = R) := ⟨_, Lib.hid (Eq.refl _)⟩
  rw [HL.out] at HBc8
  obtain ⟨F, HF⟩ : ∃ R, Hid (bitsF L n = R) := ⟨_, Lib.hid (Eq.refl _)⟩
  rw [HF.out] at HBc8
  have HmL : Hid (∀ j, j < n → m j = (L j : Int)) := fun j hj => by
    have := Hrange.out j hj
    rw [← HL.out]
    unfold lens
    omega
  clear ho hr8 hb8 HBc7 HR7
  go_wp2_with fail
  go_loopw [60] (fun i_ wr => ∃ i nq : Nat, i ≤ n ∧ i_ = .int .i64 (i : Int) ∧ Hid (wr = w8.drewN nq)) (fun i _ => n - (intOf i).toNat)
  case atStart => exact ⟨0, 0, by omega, rfl, rfl⟩
  case round =>
    obtain ⟨i, nq0, hi, rfl, HW⟩ := hrel
    have hW := HW.out
    have HBw : Hid (Blk wr gc 31 (ccells n F L)) := by show Blk _ _ _ _; rw [hW]; exact HBc8.out
    have HRw : Hid (IRow wr (some ⟨g1, 0, none⟩) n m) := by show IRow _ _ _ _; rw [hW]; exact HR8.out
    have HLw : Hid (IRow wr (some ⟨g8, 0, none⟩) n m) := by show IRow _ _ _ _; rw [hW]; exact HL8.out
    have Hbw : Hid (Below w.heap.size w wr) := by show Below _ _ _; rw [hW]; exact below_drewN HB8.out nq0
    clear hW
    by_cases hlt : i < n
    · have d1 : decide ((i : Int) < (n : Int)) = true := by rw [decide_eq_true_eq]; omega
      obtain ⟨b1, o1, e1, _, c1⟩ := HRw.out.get i hlt
      injection e1 with e1
      injection e1 with e2 e3
      subst e2 e3
      obtain ⟨b2, o2, e1, _, c2⟩ := HLw.out.get i hlt
      injection e1 with e1
      injection e1 with e2 e3
      subst e2 e3
      have k0 := HBw.out.cell (i * 2)
      rw [ccells_bits n F L i (i * 2) rfl hlt] at k0
      have k1 := HBw.out.cell (i * 2 + 1)
      rw [ccells_len n F L i (i * 2 + 1) rfl hlt] at k1
      have em := HmL.out i hlt
      obtain ⟨l, Hl⟩ : ∃ R, Hid (L i = R) := ⟨_, Lib.hid (Eq.refl _)⟩
      obtain ⟨f, Hf⟩ : ∃ R, Hid (F i = R) := ⟨_, Lib.hid (Eq.refl _)⟩
      rw [em, Hl.out, Nat.zero_add] at c1 c2
      rw [Hf.out] at k0
      rw [Hl.out] at k1
      have hlI : (i : Int) < (n : Int) := by omega
      clear em
      by_cases hl0 : l = 0
      · subst hl0
        have hf0 : f = 0 := by
          rw [← Hf.out, ← HF.out]
          unfold bitsF
          rw [Hl.out]
          rfl
        subst hf0
        simp at c1 c2 k0 k1
        go_wp2_with fail
        go_quiet (fail)
        go_wp2_with fail
        go_roundw
        case rel => exact ⟨i + 1, nq0 + nq, by omega, by go_num, by show _ = _; rw [HW.out, World.drewN_drewN]⟩
        case measure => simp [intOf]; omega
      · have f1 : ((l : Int) == 0) = false := by simp; omega
        have f2 : decide (0 < (l : Int)) = true := by rw [decide_eq_true_eq]; omega
        have f3 : decide (0 < l) = true := by rw [decide_eq_true_eq]; omega
        have hfc : codeOf (lens m) n i = f := by
          rw [← Hf.out, ← HF.out, HL.out]
          unfold bitsF
          rw [if_pos (by rw [Hl.out]; omega)]
        have CCo0 := fun nq => code_any (some ⟨g1, 0, none⟩) n cap1 m hn320 Hrange.out i hlt (wr.drewN nq) HRw.out
        rw [hfc] at CCo0
        have CCo := Lib.hid CCo0
        clear hfc CCo0
        go_wp2_with fail
        go_quiet ((go_at_call 35; exact Calls.quiet_of_same ((CCo.out _).mono fun _ _ ⟨h1, h2⟩ => ⟨h1, h2.symm⟩)))
        go_wp2_with fail
        go_roundw
        case rel => exact ⟨i + 1, nq0 + nq, by omega, by go_num, by show _ = _; rw [HW.out, World.drewN_drewN]⟩
        case measure => simp [intOf]; omega
    · obtain rfl : i = n := by omega
      have d1 : decide ((i : Int) < (i : Int)) = false := by rw [decide_eq_false_iff_not]; omega
      have hB := Hbw.out
      go_wp2_with fail
      go_ret
      exact ⟨rfl, hB⟩
theorem hcodes_any (a : Option Addr) (len cap : Nat) (m : Nat → Int) (hcap : len ≤ cap) (hlen : cap ≤ 9223372036854775807) (w : World) (hr : IRow w a len m) (hnil : a = none → len = 0 ∧ cap = 0) :
    Calls Try.prog 6 #[.slice a len cap] w fun e w' => e = .returned (.bool true) ∧ Below w.heap.size w w' := by
  obtain ⟨k, hk⟩ := kind_ex (min len 400) m
  by_cases h0 : 0 < k
  · exact hcodes_bad a len cap m hcap hlen w hr hnil k hk h0
  · obtain rfl : k = 0 := by omega
    exact hcodes_ok a len cap m hcap hlen w hr hnil hk
end Go.Proofs.Ytginjnpboggnbaa
