/- HuffLengths. Conditions: none. -/
import Derived.Test.YtahgeeklenojjaaFew4
import Derived.Test.YtahgeeklenojjaaLaw4a
import Derived.Test.YtahgeeklenojjaaHlC
import Derived.Test.YtahgeeklenojjaaHlI
import Derived.Test.YtahgeeklenojjaaHlW
import Derived.Test.YtahgeeklenojjaaHlR
import Derived.BigQuiet
namespace Go.Proofs.Ytahgeeklenojjaa
open Go.RowKit
set_option maxRecDepth 100000

theorem lens_k {w : World} {n : Nat} {m : Nat → Int} {most : Int} {e : Ending} {w' : World} {k : Nat} (hk : WrongOf n m most k) (h : LensPost w n m most e w') :
    Below w.heap.size w w' ∧ ((0 < k ∧ k ≤ 4 ∧ e = bad k) ∨ (k = 0 ∧ n ≤ 320 ∧ 1 ≤ most ∧ most ≤ 15 ∧ CntOK m n ∧ (coinsB m n).length ≤ 2 ^ most.toNat ∧ ∃ g, e = .returned (.tuple #[.slice (some ⟨g, 0, none⟩) n n, .int .i64 0]) ∧ w.heap.size ≤ g ∧ Blk w' g 3 (fcells n fun i => .int .i64 ((finL m n most.toNat i : Nat) : Int)))) := by
  obtain ⟨hb, h⟩ := h
  refine ⟨hb, ?_⟩
  rcases h with ⟨a1, rfl⟩ | ⟨a1, a2, rfl⟩ | ⟨a1, a2, a3, a4, rfl⟩ | ⟨a1, a2, a3, a4, a5, rfl⟩ | ⟨a1, a2, a3, a4, a5, g, rfl, hg, hB⟩
  · rcases hk with ⟨_, rfl⟩ | ⟨b1, _⟩ | ⟨b1, _⟩ | ⟨b1, _⟩ | ⟨b1, _⟩
    · exact .inl ⟨by omega, by omega, rfl⟩
    all_goals omega
  · rcases hk with ⟨b1, _⟩ | ⟨_, _, rfl⟩ | ⟨_, b2, b3, _⟩ | ⟨_, b2, b3, _⟩ | ⟨_, b2, b3, _⟩
    · omega
    · exact .inl ⟨by omega, by omega, rfl⟩
    all_goals omega
  · rcases hk with ⟨b1, _⟩ | ⟨_, b2, _⟩ | ⟨_, _, _, _, rfl⟩ | ⟨_, _, _, b4, _⟩ | ⟨_, _, _, b4, _⟩
    · omega
    · omega
    · exact .inl ⟨by omega, by omega, rfl⟩
    · exact absurd b4 a4
    · exact absurd b4 a4
  · rcases hk with ⟨b1, _⟩ | ⟨_, b2, _⟩ | ⟨_, _, _, b4, _⟩ | ⟨_, _, _, _, _, rfl⟩ | ⟨_, _, _, _, b5, _⟩
    · omega
    · omega
    · exact absurd a4 b4
    · exact .inl ⟨by omega, by omega, rfl⟩
    · omega
  · rcases hk with ⟨b1, _⟩ | ⟨_, b2, _⟩ | ⟨_, _, _, b4, _⟩ | ⟨_, _, _, _, b5, _⟩ | ⟨_, _, _, _, _, rfl⟩
    · omega
    · omega
    · exact absurd a4 b4
    · omega
    · exact .inr ⟨rfl, a1, a2, a3, a4, a5, g, rfl, hg, hB⟩
theorem flen_row (g n : Nat) (L : Nat → Nat) (w : World) (h : Blk w g 3 (fcells n fun i => .int .i64 ((L i : Nat) : Int))) : IRow w (some ⟨g, 0, none⟩) n (fun i => ((L i : Nat) : Int)) :=
  .inr ⟨g, 0, rfl, h.lt, fun i hi => by rw [Nat.zero_add]; exact (Blk.cell h i).trans (fcells_at _ _ _ hi)⟩
/-- The two costs are one. -/
theorem two_costs {cnt : Nat → Int} {n most : Nat} (h2 : 2 ≤ (coinsB cnt n).length) (hm : 1 ≤ most) (hm15 : most ≤ 15) (hbig : (coinsB cnt n).length ≤ 2 ^ most) :
    optI (lsN most (descL cnt n) 1 2) = sZ (fun i => cnt i * (finL cnt n most i : Int)) n := by
  rw [descL_eq, least_pack h2 hm hbig, cost_pack hm hm15 hbig]
  rfl

theorem hlens_bad (a : Option Addr) (len cap : Nat) (m : Nat → Int) (hcap : len ≤ cap) (hlen : cap ≤ 9223372036854775807) (most : Int) (w : World) (hr : IRow w a len m) (hnil : a = none → len = 0 ∧ cap = 0) (k : Nat) (hk : WrongOf (min len 400) m most k) (h0 : 0 < k) :
    Calls Try.prog 4 #[.slice a len cap, .int .i64 most] w fun e w' => e = .returned (.bool true) ∧ Below w.heap.size w w' := by
  have Hk := Lib.hid hk
  have Hr := Lib.hid hr
  have CF := Lib.hid (fun W h => few4_any a len cap m hcap hlen W h hnil)
  obtain ⟨n, Hn⟩ : ∃ n, Hid (min len 400 = n) := ⟨_, Lib.hid (Eq.refl _)⟩
  have hnl : n ≤ 1000000 := by have := Hn.out; omega
  rw [Hn.out] at Hk CF
  have CA := Lib.hid awake4_any
  clear hr hk
  go_enter Try.func4, Try.ntmps4
  go_wp2_with fail
  refine (CF.out _ Hr.out).mono ?_
  rintro e w1 ⟨v, rfl, ho, hb1⟩
  obtain ⟨g1, cap1, rfl, hr1, _, _⟩ := ho.row
  have CC := Lib.hid (lens_any (some ⟨g1, 0, none⟩) n cap1 m hnl most w1 hr1)
  have HB1 := Lib.hid hb1
  clear ho hr1 hb1
  go_wp2_with fail
  refine CC.out.mono ?_
  intro e w2 h
  obtain ⟨hb2, ⟨_, hk4, rfl⟩ | ⟨hk0, _⟩⟩ := lens_k Hk.out h
  · have HB2 := Lib.hid (bthen HB1.out hb2)
    clear CC h hb2
    unfold bad
    go_wp2_with fail
    refine (CF.out _ (Hr.out.below HB2.out)).mono ?_
    rintro e w3 ⟨v, rfl, ho, hb3⟩
    obtain ⟨g3, cap3, rfl, hr3, _, _⟩ := ho.row
    have CW := Lib.hid (wrong_any (some ⟨g3, 0, none⟩) n cap3 m hnl most k Hk.out w3 hr3)
    have HB3 := Lib.hid (bthen HB2.out hb3)
    clear ho hr3 hb3
    go_wp2_with fail
    refine CW.out.mono ?_
    rintro e w4 ⟨rfl, rfl⟩
    have dk : ((k : Int) == 0) = false := by simp; omega
    go_wp2_with fail
    refine (CA.out _).mono ?_
    rintro e w7 ⟨rfl, hb7⟩
    have hB := bthen HB3.out hb7
    go_wp2_with fail
    go_ret
    exact ⟨rfl, hB⟩
  · omega

set_option maxHeartbeats 16000000 in
theorem hlens_ok (a : Option Addr) (len cap : Nat) (m : Nat → Int) (hcap : len ≤ cap) (hlen : cap ≤ 9223372036854775807) (mostI : Int) (w : World) (hr : IRow w a len m) (hnil : a = none → len = 0 ∧ cap = 0) (hk : WrongOf (min len 400) m mostI 0) :
    Calls Try.prog 4 #[.slice a len cap, .int .i64 mostI] w fun e w' => e = .returned (.bool true) ∧ Below w.heap.size w w' := by
  have Hk := Lib.hid hk
  have Hr := Lib.hid hr
  have CF := Lib.hid (fun W h => few4_any a len cap m hcap hlen W h hnil)
  obtain ⟨n, Hn⟩ : ∃ n, Hid (min len 400 = n) := ⟨_, Lib.hid (Eq.refl _)⟩
  have hnl : n ≤ 1000000 := by have := Hn.out; omega
  rw [Hn.out] at Hk CF
  have hK : n ≤ 320 ∧ 1 ≤ mostI ∧ mostI ≤ 15 ∧ CntOK m n ∧ (coinsB m n).length ≤ 2 ^ mostI.toNat := by
    rcases Hk.out with ⟨_, h⟩ | ⟨_, _, h⟩ | ⟨_, _, _, _, h⟩ | ⟨_, _, _, _, _, h⟩ | ⟨h1, h2, h3, h4, h5, _⟩
    · omega
    · omega
    · omega
    · omega
    · exact ⟨h1, h2, h3, h4, h5⟩
  obtain ⟨hn320, hmo1, hmo15, hcok, hbig⟩ := hK
  obtain ⟨most, rfl⟩ : ∃ k : Nat, mostI = (k : Int) := ⟨mostI.toNat, by omega⟩
  rw [Int.toNat_natCast] at hbig
  have Hcok := Lib.hid hcok
  have Hbig := Lib.hid hbig
  have Hmo : Hid (1 ≤ most ∧ most ≤ 15) := by show _ ∧ _; omega
  have CA := Lib.hid awake4_any
  obtain ⟨L, HL⟩ : ∃ R, Hid (finL m n most = R) := ⟨_, Lib.hid (Eq.refl _)⟩
  have Hok : Hid (LenOK m n most L) := by show LenOK _ _ _ _; rw [← HL.out]; exact fin_ok (by omega) (by omega) hbig
  have HTC : Hid (2 ≤ (coinsB m n).length → optI (lsN most (descL m n) 1 2) = sZ (fun i => m i * (L i : Int)) n) := fun h => by rw [← HL.out]; exact two_costs h (by omega) (by omega) hbig
  clear hr hk hcok hbig
  go_enter Try.func4, Try.ntmps4
  go_wp2_with fail
  refine (CF.out _ Hr.out).mono ?_
  rintro e w1 ⟨v, rfl, ho, hb1⟩
  obtain ⟨g1, cap1, rfl, hr1, _, _⟩ := ho.row
  have CC := Lib.hid (lens_any (some ⟨g1, 0, none⟩) n cap1 m hnl (most : Int) w1 hr1)
  have HB1 := Lib.hid hb1
  have HR1 := Lib.hid hr1
  clear ho hr1 hb1
  go_wp2_with fail
  refine CC.out.mono ?_
  intro e w2 h
  obtain ⟨hb2, ⟨hk4, _⟩ | ⟨_, _, _, _, _, _, gc, rfl, hgc, hBc⟩⟩ := lens_k Hk.out h
  · omega
  rw [Int.toNat_natCast, HL.out] at hBc
  have HB2 := Lib.hid (bthen HB1.out hb2)
  have HC2 := Lib.hid (flen_row gc n L w2 hBc)
  have HR2 := Lib.hid (HR1.out.below hb2)
  clear CC h hb2 hBc hgc HR1 HL
  go_wp2_with fail
  refine (CF.out _ (Hr.out.below HB2.out)).mono ?_
  rintro e w3 ⟨v, rfl, ho, hb3⟩
  obtain ⟨g3, cap3, rfl, hr3, _, _⟩ := ho.row
  have CW := Lib.hid (wrong_any (some ⟨g3, 0, none⟩) n cap3 m hnl (most : Int) 0 Hk.out w3 hr3)
  have HB3 := Lib.hid (bthen HB2.out hb3)
  have HC3 := Lib.hid (HC2.out.below hb3)
  have HR3 := Lib.hid (HR2.out.below hb3)
  clear ho hr3 hb3 HC2 HR2
  go_wp2_with fail
  refine CW.out.mono ?_
  rintro e w4 ⟨rfl, rfl⟩
  clear CW
  go_wp2_with fail
  refine (CA.out _).mono ?_
  rintro e w7 ⟨rfl, hb7⟩
  have HB7 := Lib.hid (bthen HB3.out hb7)
  have HC7 := Lib.hid (HC3.out.below hb7)
  have HR7 := Lib.hid (HR3.out.below hb7)
  clear hb7 HC3 HR3
  go_wp2_with fail
  refine (CF.out _ (Hr.out.below HB7.out)).mono ?_
  rintro e w8 ⟨v, rfl, ho, hb8⟩
  obtain ⟨g8, cap8, rfl, hr8, _, _⟩ := ho.row
  have HB8 := Lib.hid (bthen HB7.out hb8)
  have HC8 := Lib.hid (HC7.out.below hb8)
  have HR8 := Lib.hid (HR7.out.below hb8)
  have HL8 := Lib.hid hr8
  clear ho hr8 hb8 HC7 HR7
  go_wp2_with fail
  go_loopw [9, 39] (fun s_ i_ wr => ∃ i s : Nat, i ≤ n ∧ i_ = .int .i64 (i : Int) ∧ s_ = .int .i64 (s : Int) ∧ s ≤ i ∧ Hid ((coinsB m i).length = s) ∧ Hid (wr = w8)) (fun _ i _ => n - (intOf i).toNat)
  case atStart => exact ⟨0, 0, by omega, rfl, rfl, by omega, rfl, rfl⟩
  case round =>
    obtain ⟨i, s, hi, rfl, rfl, hs, HS, HW⟩ := hrel
    have hW := HW.out
    have HRw : Hid (IRow wr (some ⟨g1, 0, none⟩) n m) := by show IRow _ _ _ _; rw [hW]; exact HR8.out
    have HLw : Hid (IRow wr (some ⟨g8, 0, none⟩) n m) := by show IRow _ _ _ _; rw [hW]; exact HL8.out
    have HCw : Hid (IRow wr (some ⟨gc, 0, none⟩) n fun i => (L i : Int)) := by show IRow _ _ _ _; rw [hW]; exact HC8.out
    have HBw : Hid (Below w.heap.size w wr) := by show Below _ _ _; rw [hW]; exact HB8.out
    clear hW
    by_cases hlt : i < n
    · have d1 : decide ((i : Int) < (n : Int)) = true := by rw [decide_eq_true_eq]; omega
      obtain ⟨b1, o1, e1, _, c1⟩ := HRw.out.get i hlt
      injection e1 with e1
      injection e1 with e2 e3
      subst e2 e3
      obtain ⟨b2, o2, e1, _, c2⟩ := HLw.out.get i hlt
      injection e1 with e1
      injection e1 with e2 e3
      subst e2 e3
      have hst : (coinsB m (i + 1)).length = (coinsB m i).length + (if 0 < m i then 1 else 0) := by
        rw [cnt_some, cnt_some]
        show _ + (if decide (0 < m i) = true then 1 else 0) = _
        by_cases h : 0 < m i
        · rw [if_pos h, if_pos (decide_eq_true h)]
        · rw [if_neg h, if_neg (by rw [decide_eq_false h]; decide)]
      obtain ⟨x, Hx⟩ : ∃ R, Hid (m i = R) := ⟨_, Lib.hid (Eq.refl _)⟩
      rw [Hx.out, Nat.zero_add] at c1 c2
      rw [Hx.out, HS.out] at hst
      have hlI : (i : Int) < (n : Int) := by omega
      by_cases hxp : 0 < x
      · have f3 : decide (0 < x) = true := by rw [decide_eq_true_eq]; exact hxp
        have HS2 : Hid ((coinsB m (i + 1)).length = s + 1) := by show _ = _; rw [hst, if_pos hxp]
        clear hst
        go_wp2_with fail
        go_roundw
        case rel => exact ⟨i + 1, s + 1, by omega, by go_num, by go_num, by omega, HS2, HW⟩
        case measure => simp [intOf]; omega
      · have f3 : decide (0 < x) = false := by rw [decide_eq_false_iff_not]; exact hxp
        have HS2 : Hid ((coinsB m (i + 1)).length = s) := by show _ = _; rw [hst, if_neg hxp]; rfl
        clear hst
        go_wp2_with fail
        go_roundw
        case rel => exact ⟨i + 1, s, by omega, by go_num, rfl, by omega, HS2, HW⟩
        case measure => simp [intOf]; omega
    · have hie : i = n := by omega
      have d1 : decide ((i : Int) < (n : Int)) = false := by rw [decide_eq_false_iff_not]; omega
      rw [hie] at HS hs
      clear hie
      go_wp2_with fail
      refine (CF.out _ (Hr.out.below HBw.out)).mono ?_
      rintro e w9 ⟨v, rfl, ho, hb9⟩
      obtain ⟨g9, cap9, rfl, hr9, _, _⟩ := ho.row
      have HB9 := Lib.hid (bthen HBw.out hb9)
      have HC9 := Lib.hid (HCw.out.below hb9)
      have CR := Lib.hid (right_any (some ⟨g9, 0, none⟩) (some ⟨gc, 0, none⟩) n cap9 n m L most hn320 Hmo.out.2 Hcok.out Hok.out w9 hr9 HC9.out)
      clear ho hr9 hb9 HRw HLw HCw
      go_wp2_with fail
      refine CR.out.mono ?_
      rintro e w10 ⟨rfl, nq, rfl⟩
      have HB10 := Lib.hid (below_drewN HB9.out nq)
      have HC10 : Hid (IRow (w9.drewN nq) (some ⟨gc, 0, none⟩) n fun i => (L i : Int)) := HC9.out
      clear CR
      by_cases hs2 : s < 2
      · have g1 : decide ((s : Int) < 2) = true := by rw [decide_eq_true_eq]; omega
        have g1b : decide (s < 2) = true := by rw [decide_eq_true_eq]; omega
        have hB := HB10.out
        go_wp2_with fail
        go_ret
        exact ⟨rfl, hB⟩
      · have g1 : decide ((s : Int) < 2) = false := by rw [decide_eq_false_iff_not]; omega
        have g1b : decide (s < 2) = false := by rw [decide_eq_false_iff_not]; omega
        by_cases hs9 : 9 < s
        · have g2 : decide (9 < (s : Int)) = true := by rw [decide_eq_true_eq]; omega
          have g2b : decide (9 < s) = true := by rw [decide_eq_true_eq]; omega
          have hB := HB10.out
          go_wp2_with fail
          go_ret
          exact ⟨rfl, hB⟩
        · have g2 : decide (9 < (s : Int)) = false := by rw [decide_eq_false_iff_not]; omega
          have g2b : decide (9 < s) = false := by rw [decide_eq_false_iff_not]; omega
          have hHT := HTC.out (by rw [HS.out]; omega)
          have hle : ∀ i, L i ≤ 15 := fun i => Nat.le_trans (Hok.out.le i) Hmo.out.2
          have h9 : (coinsB m n).length ≤ 9 := by rw [HS.out]; omega
          obtain ⟨R, HR⟩ : ∃ R, Hid (sZ (fun i => m i * (L i : Int)) n = R) := ⟨_, Lib.hid (Eq.refl _)⟩
          have CO0 : Hid (∀ (g c : Nat) (W : World), IRow W (some ⟨g, 0, none⟩) n m → IRow W (some ⟨gc, 0, none⟩) n (fun i => (L i : Int)) → Calls Try.prog 20 #[.slice (some ⟨g, 0, none⟩) n c, .slice (some ⟨gc, 0, none⟩) n n] W fun e w' => e = .returned (.int .i64 R) ∧ ∃ nq, w' = W.drewN nq) := fun g c W h1 h2 => by
            rw [← HR.out]
            exact cost_any (some ⟨g, 0, none⟩) (some ⟨gc, 0, none⟩) n c n m L hn320 Hcok.out hle W h1 h2
          have CE0 : Hid (∀ (g c : Nat) (W : World), IRow W (some ⟨g, 0, none⟩) n m → Calls Try.prog 21 #[.slice (some ⟨g, 0, none⟩) n c, .int .i64 (most : Int)] W fun e w' => e = .returned (.int .i64 R) ∧ Below W.heap.size W w') := fun g c W h1 => by
            rw [← HR.out, ← hHT]
            exact leastU_any (some ⟨g, 0, none⟩) n c m most (by omega) Hmo.out.2 Hcok.out h9 W h1
          clear hHT hle h9 HTC HR Hok Hk
          go_wp2_with fail
          refine (CF.out _ (Hr.out.below HB10.out)).mono ?_
          rintro e w11 ⟨v, rfl, ho, hb11⟩
          obtain ⟨g11, cap11, rfl, hr11, _, _⟩ := ho.row
          have HB11 := Lib.hid (bthen HB10.out hb11)
          have CO := Lib.hid (CO0.out g11 cap11 w11 hr11 (HC10.out.below hb11))
          clear ho hr11 hb11 CO0 HB10 HC10 HC9 HB9
          go_wp2_with fail
          refine CO.out.mono ?_
          rintro e w12 ⟨rfl, nq2, rfl⟩
          have HB12 := Lib.hid (below_drewN HB11.out nq2)
          clear CO HB11
          go_wp2_with fail
          refine (CF.out _ (Hr.out.below HB12.out)).mono ?_
          rintro e w13 ⟨v, rfl, ho, hb13⟩
          obtain ⟨g13, cap13, rfl, hr13, _, _⟩ := ho.row
          have HB13 := Lib.hid (bthen HB12.out hb13)
          have CE := Lib.hid (CE0.out g13 cap13 w13 hr13)
          clear ho hr13 hb13 CE0 HB12
          go_wp2_with fail
          refine CE.out.mono ?_
          rintro e w14 ⟨rfl, hb14⟩
          have hB := bthen HB13.out hb14
          go_wp2_with fail
          go_ret
          exact ⟨rfl, hB⟩
theorem hlens_any (a : Option Addr) (len cap : Nat) (m : Nat → Int) (hcap : len ≤ cap) (hlen : cap ≤ 9223372036854775807) (most : Int) (w : World) (hr : IRow w a len m) (hnil : a = none → len = 0 ∧ cap = 0) :
    Calls Try.prog 4 #[.slice a len cap, .int .i64 most] w fun e w' => e = .returned (.bool true) ∧ Below w.heap.size w w' := by
  obtain ⟨k, hk⟩ := wrong_ex (min len 400) m most
  by_cases h0 : 0 < k
  · exact hlens_bad a len cap m hcap hlen most w hr hnil k hk h0
  · obtain rfl : k = 0 := by omega
    exact hlens_ok a len cap m hcap hlen most w hr hnil hk
end Go.Proofs.Ytahgeeklenojjaa
