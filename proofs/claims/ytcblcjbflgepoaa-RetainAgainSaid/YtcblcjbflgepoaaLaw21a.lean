/- RetainKeeps' walk. Conditions: rows that Go can hold. -/
import Derived.Test.YtcblcjbflgepoaaKeptA
namespace Go.Proofs.Ytcblcjbflgepoaa
open Go.RowKit
set_option maxRecDepth 100000

/-- A policy of which Go can hold the numbers. -/
def PolFit (P : Pol) : Prop := P.n ≤ 9223372036854775807 ∧ P.a ≤ 9223372036854775807 ∧ P.b ≤ 9223372036854775807 ∧ P.c ≤ 9223372036854775807 ∧ P.d ≤ 9223372036854775807

set_option maxHeartbeats 4000000 in
theorem keeps_bad (P : Pol) (hP : PolFit P) (ta : Option Addr) (tc : Nat) (a : Option Addr) (len cap : Nat) (S : List Snp) (hS : S.length = len) (hl : len ≤ cap) (hc : cap ≤ 9223372036854775807) (hnil : a = none → len = 0 ∧ cap = 0) (w : World)
    (hr : SnRow w a S) (hk : chk P (S.take 25) ≠ 0) :
    Calls Try.prog 7 #[.agg (polc P ta tc), .slice a len cap] w fun e w' => e = .returned (.bool true) ∧ Below w.heap.size w w' := by
  have hb0 := (Below.refl w.heap.size w).alloc (Nat.le_refl _) (.cells (polc P ta tc) 36)
  have hpb := Blk.new w 36 (polc P ta tc)
  have hlt : w.heap.size < (w.alloc (.cells (polc P ta tc) 36)).heap.size := by simp
  have CF := Lib.hid (fun W hr => few21_any a len cap S hS hl hc hnil W hr)
  have hr1 := hr.below hb0 (Nat.le_refl _)
  obtain ⟨T, HT⟩ : ∃ T, Hid (S.take 25 = T) := ⟨_, Lib.hid (Eq.refl _)⟩
  have hTl : T.length ≤ 25 := by rw [← HT.out, List.length_take]; omega
  rw [HT.out] at hk CF
  have C1 := Lib.hid (fun a cap W hr => keep_bad P ta tc a cap T (by omega) W hr hk)
  have C2 := Lib.hid (fun a cap W hr => gone_bad P ta tc a cap T (by omega) W hr hk)
  have C3 := Lib.hid (fun a cap W hr => rrcheck_any P ta tc a cap T (by omega) W hr)
  have C4 := Lib.hid (fun a cap W hr => check_any P ta tc a cap T (by omega) W hr)
  obtain ⟨c, Hc⟩ : ∃ c, Hid (chk P T = c) := ⟨_, Lib.hid (Eq.refl _)⟩
  rw [Hc.out] at hk C1 C2 C3 C4
  have hne : ((c : Int) != 0) = true := by simp; omega
  have hcc : ((c : Int) != (c : Int)) = false := by simp
  obtain ⟨N, HN⟩ : ∃ N, Hid (T.length = N) := ⟨_, Lib.hid (Eq.refl _)⟩
  rw [HN.out] at hTl C1 C2 C3 C4
  have Hr := Lib.hid hr1
  unfold polc at hb0 hpb hlt C1 C2 C3 C4 Hr ⊢
  have Hb := Lib.hid hb0
  have HP := Lib.hid hpb
  clear hb0 hpb hr hr1 hk
  obtain ⟨pa, pb, pc, pd, pn, pm⟩ := P
  simp only at Hb HP hlt C1 C2 C3 C4 Hr ⊢
  go_enter Try.func7, Try.ntmps7
  go_wp2_with fail
  generalize w.alloc (.cells #[.int .i64 pa, .int .i64 pb, .int .i64 pc, .int .i64 pd, .slice ta pn tc] 36) = w1 at *
  obtain ⟨p, Hp⟩ : ∃ p, Hid (w.heap.size = p) := ⟨_, Lib.hid (Eq.refl _)⟩
  rw [Hp.out] at hlt HP ⊢
  refine (CF.out _ Hr.out).mono ?_
  rintro e w2 ⟨v, rfl, hO, hb2⟩
  obtain ⟨a2, cap2, rfl, hc1, hc2, hS2, _⟩ := hO.view
  have HB2 := Lib.hid (bthen Hb.out hb2)
  have HP2 := Lib.hid (HP.out.below hb2 hlt)
  have hlt2 : p < w2.heap.size := Nat.lt_of_lt_of_le hlt hb2.size
  have HS2 := Lib.hid hS2
  rw [HN.out]
  clear Hb HP hlt hb2 hO hS2 hc1
  have p0 := HP2.out.cell 0
  have p1 := HP2.out.cell 1
  have p2 := HP2.out.cell 2
  have p3 := HP2.out.cell 3
  have p4 := HP2.out.cell 4
  simp at p0 p1 p2 p3 p4
  go_wp2_with fail
  refine (C1.out _ _ _ HS2.out).mono ?_
  rintro e w3 ⟨rfl, hb3⟩
  have HB3 := Lib.hid (bthen HB2.out hb3)
  have HP3 := Lib.hid (HP2.out.below hb3 hlt2)
  have hlt3 : p < w3.heap.size := Nat.lt_of_lt_of_le hlt2 hb3.size
  have HS3 := Lib.hid (HS2.out.below hb3 (Nat.le_refl _))
  clear HB2 HP2 hlt2 hb3 HS2 p0 p1 p2 p3 p4
  have p0 := HP3.out.cell 0
  have p1 := HP3.out.cell 1
  have p2 := HP3.out.cell 2
  have p3 := HP3.out.cell 3
  have p4 := HP3.out.cell 4
  simp at p0 p1 p2 p3 p4
  go_wp2_with fail
  refine (C2.out _ _ _ HS3.out).mono ?_
  rintro e w4 ⟨rfl, hb4⟩
  have HB4 := Lib.hid (bthen HB3.out hb4)
  have HP4 := Lib.hid (HP3.out.below hb4 hlt3)
  have hlt4 : p < w4.heap.size := Nat.lt_of_lt_of_le hlt3 hb4.size
  have HS4 := Lib.hid (HS3.out.below hb4 (Nat.le_refl _))
  clear HB3 HP3 hlt3 hb4 HS3 p0 p1 p2 p3 p4
  have p0 := HP4.out.cell 0
  have p1 := HP4.out.cell 1
  have p2 := HP4.out.cell 2
  have p3 := HP4.out.cell 3
  have p4 := HP4.out.cell 4
  simp at p0 p1 p2 p3 p4
  go_wp2_with fail
  refine (C3.out _ _ _ HS4.out).mono ?_
  rintro e w5 ⟨rfl, hb5⟩
  have HB5 := Lib.hid (bthen HB4.out hb5)
  have HP5 := Lib.hid (HP4.out.below hb5 hlt4)
  have hlt5 : p < w5.heap.size := Nat.lt_of_lt_of_le hlt4 hb5.size
  have HS5 := Lib.hid (HS4.out.below hb5 (Nat.le_refl _))
  clear HB4 HP4 hlt4 hb5 HS4 p0 p1 p2 p3 p4
  go_wp2_with fail
  refine (awake21_any _).mono ?_
  rintro e w6 ⟨rfl, hb6⟩
  have HB6 := Lib.hid (bthen HB5.out hb6)
  have HP6 := Lib.hid (HP5.out.below hb6 hlt5)
  have HS6 := Lib.hid (HS5.out.below hb6 (Nat.le_refl _))
  clear HB5 HP5 hlt5 hb6 HS5
  have p0 := HP6.out.cell 0
  have p1 := HP6.out.cell 1
  have p2 := HP6.out.cell 2
  have p3 := HP6.out.cell 3
  have p4 := HP6.out.cell 4
  simp at p0 p1 p2 p3 p4
  go_wp2_with fail
  refine (C4.out _ _ _ HS6.out).mono ?_
  rintro e w7 ⟨rfl, hb7⟩
  have HB7 := Lib.hid (bthen HB6.out hb7)
  clear HB6 HP6 hb7 HS6 p0 p1 p2 p3 p4
  go_wp2_with fail
  go_ret
  exact ⟨rfl, HB7.out⟩

set_option maxHeartbeats 8000000 in
theorem keeps_good (P : Pol) (hP : PolFit P) (ta : Option Addr) (tc : Nat) (a : Option Addr) (len cap : Nat) (S : List Snp) (hS : S.length = len) (hl : len ≤ cap) (hc : cap ≤ 9223372036854775807) (hnil : a = none → len = 0 ∧ cap = 0) (w : World)
    (hT : SRow w ta P.n P.m) (hr : SnRow w a S) (hk : chk P (S.take 25) = 0) :
    Calls Try.prog 7 #[.agg (polc P ta tc), .slice a len cap] w fun e w' => e = .returned (.bool true) ∧ Below w.heap.size w w' := by
  have hb0 := (Below.refl w.heap.size w).alloc (Nat.le_refl _) (.cells (polc P ta tc) 36)
  have hpb := Blk.new w 36 (polc P ta tc)
  have hlt : w.heap.size < (w.alloc (.cells (polc P ta tc) 36)).heap.size := by simp
  have CF := Lib.hid (fun W hr => few21_any a len cap S hS hl hc hnil W hr)
  have hr1 := hr.below hb0 (Nat.le_refl _)
  obtain ⟨T, HT⟩ : ∃ T, Hid (S.take 25 = T) := ⟨_, Lib.hid (Eq.refl _)⟩
  have hTl : T.length ≤ 25 := by rw [← HT.out, List.length_take]; omega
  rw [HT.out] at hk CF
  obtain ⟨hpg, hok⟩ := chk_zero hk
  have HTg := Lib.hid (hT.below hb0)
  have C1 := Lib.hid (fun a cap W hT hr => keep_good P ta tc hP.1 a cap T (by omega) W hT hr hk hP.2)
  have C2 := Lib.hid (fun a cap W hT hr => gone_good P ta tc hP.1 a cap T (by omega) W hT hr hk hP.2)
  have C3 := Lib.hid (fun a cap W hr => rrcheck_any P ta tc a cap T (by omega) W hr)
  have C4 := Lib.hid (fun a cap W hr => check_any P ta tc a cap T (by omega) W hr)
  have C5 := Lib.hid (fun a cap h1 h2 i hi W hT hr => kept_any P ta tc hP.1 T (by omega) hok a cap h1 h2 i hi W hT hr)
  rw [hk] at C3 C4
  have hsucc : ∀ k, goneK P T (k + 1) = goneK P T k ++ (if keepAt P T k then [] else [(sn T k).id]) := fun k => rfl
  have hpre := goneK_pre P T
  have hgle := goneK_le P T
  obtain ⟨KV, HKV⟩ : ∃ f, Hid (keepAt P T = f) := ⟨_, Lib.hid (Eq.refl _)⟩
  obtain ⟨GK, HGK⟩ : ∃ f, Hid (goneK P T = f) := ⟨_, Lib.hid (Eq.refl _)⟩
  rw [HKV.out] at C1 C5 hsucc
  rw [HGK.out] at C2 hsucc hpre hgle
  obtain ⟨N, HN⟩ : ∃ N, Hid (T.length = N) := ⟨_, Lib.hid (Eq.refl _)⟩
  rw [HN.out] at hTl C1 C2 C3 C4 C5
  have Hr := Lib.hid hr1
  have Hsucc := Lib.hid hsucc
  have Hpre := Lib.hid hpre
  have Hgle := Lib.hid hgle
  have H0 : Hid (GK 0 = []) := by show _ = _; rw [← HGK.out]; rfl
  unfold polc at hb0 hpb hlt C1 C2 C3 C4 C5 Hr HTg ⊢
  have Hb := Lib.hid hb0
  have HP := Lib.hid hpb
  clear hb0 hpb hr hr1 hk hT hpg hok hsucc hpre hgle hP
  obtain ⟨pa, pb, pc, pd, pn, pm⟩ := P
  simp only at Hb HP hlt C1 C2 C3 C4 C5 Hr HTg ⊢
  go_enter Try.func7, Try.ntmps7
  go_wp2_with fail
  generalize w.alloc (.cells #[.int .i64 pa, .int .i64 pb, .int .i64 pc, .int .i64 pd, .slice ta pn tc] 36) = w1 at *
  obtain ⟨p, Hp⟩ : ∃ p, Hid (w.heap.size = p) := ⟨_, Lib.hid (Eq.refl _)⟩
  rw [Hp.out] at hlt HP ⊢
  refine (CF.out _ Hr.out).mono ?_
  rintro e w2 ⟨v, rfl, hO, hb2⟩
  obtain ⟨a2, cap2, rfl, hc1, hc2, hS2, _⟩ := hO.view
  have HB2 := Lib.hid (bthen Hb.out hb2)
  have HP2 := Lib.hid (HP.out.below hb2 hlt)
  have hlt2 : p < w2.heap.size := Nat.lt_of_lt_of_le hlt hb2.size
  have HS2 := Lib.hid hS2
  have HT2 := Lib.hid (HTg.out.below hb2)
  rw [HN.out] at hc1 ⊢
  clear Hb HP hlt hb2 hO hS2 HTg
  have p0 := HP2.out.cell 0
  have p1 := HP2.out.cell 1
  have p2 := HP2.out.cell 2
  have p3 := HP2.out.cell 3
  have p4 := HP2.out.cell 4
  simp at p0 p1 p2 p3 p4
  go_wp2_with fail
  refine (C1.out _ _ _ HT2.out HS2.out).mono ?_
  rintro e w3 ⟨g, rfl, hg3, hK3, hb3⟩
  have HB3 := Lib.hid (bthen HB2.out hb3)
  have HP3 := Lib.hid (HP2.out.below hb3 hlt2)
  have hlt3 : p < w3.heap.size := Nat.lt_of_lt_of_le hlt2 hb3.size
  have HS3 := Lib.hid (HS2.out.below hb3 (Nat.le_refl _))
  have HT3 := Lib.hid (HT2.out.below hb3)
  have HK3 := Lib.hid hK3
  clear HB2 HP2 hlt2 hb3 HS2 HT2 p0 p1 p2 p3 p4 hK3 hg3
  have p0 := HP3.out.cell 0
  have p1 := HP3.out.cell 1
  have p2 := HP3.out.cell 2
  have p3 := HP3.out.cell 3
  have p4 := HP3.out.cell 4
  simp at p0 p1 p2 p3 p4
  go_wp2_with fail
  refine (C2.out _ _ _ HT3.out HS3.out).mono ?_
  rintro e w4 ⟨vg, rfl, hG4, hb4⟩
  have HB4 := Lib.hid (bthen HB3.out hb4)
  have HP4 := Lib.hid (HP3.out.below hb4 hlt3)
  have hlt4 : p < w4.heap.size := Nat.lt_of_lt_of_le hlt3 hb4.size
  have HS4 := Lib.hid (HS3.out.below hb4 (Nat.le_refl _))
  have HT4 := Lib.hid (HT3.out.below hb4)
  have HK4 := Lib.hid (HK3.out.below hb4 HK3.out.lt)
  have HG4 := Lib.hid hG4
  clear HB3 HP3 hlt3 hb4 HS3 HT3 HK3 hG4 p0 p1 p2 p3 p4
  have p0 := HP4.out.cell 0
  have p1 := HP4.out.cell 1
  have p2 := HP4.out.cell 2
  have p3 := HP4.out.cell 3
  have p4 := HP4.out.cell 4
  simp at p0 p1 p2 p3 p4
  go_wp2_with fail
  refine (C3.out _ _ _ HS4.out).mono ?_
  rintro e w5 ⟨rfl, hb5⟩
  have HB5 := Lib.hid (bthen HB4.out hb5)
  have HP5 := Lib.hid (HP4.out.below hb5 hlt4)
  have hlt5 : p < w5.heap.size := Nat.lt_of_lt_of_le hlt4 hb5.size
  have HS5 := Lib.hid (HS4.out.below hb5 (Nat.le_refl _))
  have HT5 := Lib.hid (HT4.out.below hb5)
  have HK5 := Lib.hid (HK4.out.below hb5 HK4.out.lt)
  have HG5 := Lib.hid (HG4.out.below hb5 (Nat.le_refl _))
  clear HB4 HP4 hlt4 hb5 HS4 HT4 HK4 HG4 p0 p1 p2 p3 p4
  go_wp2_with fail
  refine (awake21_any _).mono ?_
  rintro e w6 ⟨rfl, hb6⟩
  have HB6 := Lib.hid (bthen HB5.out hb6)
  have HP6 := Lib.hid (HP5.out.below hb6 hlt5)
  have hlt6 : p < w6.heap.size := Nat.lt_of_lt_of_le hlt5 hb6.size
  have HS6 := Lib.hid (HS5.out.below hb6 (Nat.le_refl _))
  have HT6 := Lib.hid (HT5.out.below hb6)
  have HK6 := Lib.hid (HK5.out.below hb6 HK5.out.lt)
  have HG6 := Lib.hid (HG5.out.below hb6 (Nat.le_refl _))
  clear HB5 HP5 hlt5 hb6 HS5 HT5 HK5 HG5
  have p0 := HP6.out.cell 0
  have p1 := HP6.out.cell 1
  have p2 := HP6.out.cell 2
  have p3 := HP6.out.cell 3
  have p4 := HP6.out.cell 4
  simp at p0 p1 p2 p3 p4
  go_wp2_with fail
  refine (C4.out _ _ _ HS6.out).mono ?_
  rintro e w7 ⟨rfl, hb7⟩
  have HB7 := Lib.hid (bthen HB6.out hb7)
  have HP7 := Lib.hid (HP6.out.below hb7 hlt6)
  have hlt7 : p < w7.heap.size := Nat.lt_of_lt_of_le hlt6 hb7.size
  have HS7 := Lib.hid (HS6.out.below hb7 (Nat.le_refl _))
  have HT7 := Lib.hid (HT6.out.below hb7)
  have HK7 := Lib.hid (HK6.out.below hb7 HK6.out.lt)
  have HG7 := Lib.hid (HG6.out.below hb7 (Nat.le_refl _))
  obtain ⟨ag, cg, rfl, _⟩ := HG7.out.view
  clear HB6 HP6 hlt6 hb7 HS6 HT6 HK6 HG6 p0 p1 p2 p3 p4
  obtain ⟨B, HBs⟩ : ∃ B, Hid (w3.heap.size = B) := ⟨_, Lib.hid (Eq.refl _)⟩
  rw [HBs.out] at HG7
  obtain ⟨G, HGl⟩ : ∃ G, Hid ((GK N).length = G) := ⟨_, Lib.hid (Eq.refl _)⟩
  have hGl : G ≤ 25 := by have := Hgle.out N; rw [HGl.out] at this; omega
  rw [HGl.out]
  go_wp2_with fail
  go_loopw [11, 67] (fun n_ i wr => ∃ k n : Nat, k ≤ N ∧ i = .int .i64 (k : Int) ∧ n_ = .int .i64 (n : Int) ∧ Hid ((GK k).length = n) ∧ Hid (Below w.heap.size w wr) ∧ Hid (Blk wr p 36 #[.int .i64 pa, .int .i64 pb, .int .i64 pc, .int .i64 pd, .slice ta pn tc]) ∧
      Hid (SnRow wr a2 T) ∧ Hid (SRow wr ta pn pm) ∧ Hid (Blk wr g 4 (fcells N (kcell KV))) ∧ Hid (OwnT wr B (.slice ag G cg) (GK N)))
    (fun _ i _ => N - (intOf i).toNat)
  case atStart =>
    have h := HG7
    rw [HGl.out] at h
    exact ⟨0, 0, by omega, rfl, rfl, by show _ = _; rw [H0.out]; rfl, HB7, HP7, HS7, HT7, HK7, h⟩
  case round =>
    clear HB7 HP7 HS7 HT7 HK7 HG7 hlt7
    obtain ⟨k, n, hk, rfl, rfl, Hn, HB, HP, HS, HTt, HK, HG⟩ := hrel
    by_cases hlt : k < N
    · have p0 := HP.out.cell 0
      have p1 := HP.out.cell 1
      have p2 := HP.out.cell 2
      have p3 := HP.out.cell 3
      have p4 := HP.out.cell 4
      simp at p0 p1 p2 p3 p4
      have hpl := HP.out.lt
      have c5 := C5.out a2 cap2 hc1 hc2 k hlt wr HTt.out HS.out
      go_wp2_with fail
      refine c5.mono ?_
      rintro e w8 ⟨rfl, hb8⟩
      have HB8 := Lib.hid (bthen HB.out hb8)
      have HP8 := Lib.hid (HP.out.below hb8 hpl)
      have HS8 := Lib.hid (HS.out.below hb8 (Nat.le_refl _))
      have HT8 := Lib.hid (HTt.out.below hb8)
      have HK8 := Lib.hid (HK.out.below hb8 HK.out.lt)
      have HG8 := Lib.hid (HG.out.below hb8 (Nat.le_refl _))
      clear HB HP HS HTt HK HG hb8 hpl p0 p1 p2 p3 p4 c5
      have hgc := HK8.out.cell k
      rw [fcells_at _ _ _ hlt] at hgc
      unfold kcell at hgc
      by_cases hkv : KV k = true
      · rw [hkv] at hgc
        have Hs : Hid (GK (k + 1) = GK k) := by show _ = _; rw [Hsucc.out, if_pos hkv, List.append_nil]
        rw [hkv]
        clear hkv
        go_wp2_with fail
        go_quiet (fail)
        all_goals
          go_wp2_with fail
          go_roundw
          case rel => exact ⟨k + 1, n, by omega, by go_num, rfl, by show _ = _; rw [Hs.out]; exact Hn.out, Lib.hid (below_drewN HB8.out _), HP8, HS8, HT8, HK8, HG8⟩
          case measure => simp [intOf]; omega
      · have hkf : KV k = false := by simpa using hkv
        rw [hkf] at hgc ⊢
        have Hs : Hid (GK (k + 1) = GK k ++ [(sn T k).id]) := by show _ = _; rw [Hsucc.out, if_neg hkv]
        obtain ⟨b, off, rfl, hbl, c0, _, _⟩ := HS8.out.get k (by rw [HN.out]; exact hlt)
        obtain ⟨sid, Hi⟩ : ∃ z, Hid ((sn T k).id = z) := ⟨_, Lib.hid (Eq.refl _)⟩
        rw [Hi.out] at c0 Hs
        obtain ⟨r, hr⟩ := Hpre.out (k + 1) N (by omega)
        rw [Hs.out] at hr
        have hnG : n < (GK N).length := by rw [hr, ← Hn.out]; simp
        have hgn : (GK N)[n] = sid := by
          have : (GK N)[n]? = some sid := by rw [hr, ← Hn.out]; simp
          rw [List.getElem?_eq_getElem hnG] at this
          injection this
        obtain ⟨ag', cg', e, hv⟩ := HG8.out.view
        injection e with e1 e3 e2
        subst e1 e2
        obtain ⟨gg, rfl, hcg⟩ := hv n hnG
        rw [hgn] at hcg
        have Hn2 : Hid ((GK (k + 1)).length = n + 1) := by show _ = _; rw [Hs.out, List.length_append, Hn.out]; rfl
        have hnl : n < G := by rw [← HGl.out]; exact hnG
        have hdn : decide ((G : Int) ≤ (n : Int)) = false := by simp; omega
        have hss : (!sid.toList == sid.toList) = false := by simp
        clear hkv hkf hr hgn hv e3 hnG
        go_wp2_with fail
        go_quiet (fail)
        all_goals
          go_wp2_with fail
          go_roundw
          case rel => exact ⟨k + 1, n + 1, by omega, by go_num, by go_num, Hn2, Lib.hid (below_drewN HB8.out _), HP8, HS8, HT8, HK8, HG8⟩
          case measure => simp [intOf]; omega
    · obtain rfl : k = N := by omega
      have hnG : n = G := by rw [← Hn.out]; exact HGl.out
      subst hnG
      go_wp2_with fail
      go_ret
      exact ⟨rfl, HB.out⟩

theorem keeps_any (P : Pol) (hP : PolFit P) (ta : Option Addr) (tc : Nat) (a : Option Addr) (len cap : Nat) (S : List Snp) (hS : S.length = len) (hl : len ≤ cap) (hc : cap ≤ 9223372036854775807) (hnil : a = none → len = 0 ∧ cap = 0) (w : World)
    (hT : SRow w ta P.n P.m) (hr : SnRow w a S) :
    Calls Try.prog 7 #[.agg (polc P ta tc), .slice a len cap] w fun e w' => e = .returned (.bool true) ∧ Below w.heap.size w w' := by
  by_cases h : chk P (S.take 25) = 0
  · exact keeps_good P hP ta tc a len cap S hS hl hc hnil w hT hr h
  · exact keeps_bad P hP ta tc a len cap S hS hl hc hnil w hr h
end Go.Proofs.Ytcblcjbflgepoaa
