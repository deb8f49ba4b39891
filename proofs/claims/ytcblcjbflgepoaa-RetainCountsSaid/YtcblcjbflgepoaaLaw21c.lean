/- RetainCounts' walk. Conditions: rows that Go can hold. -/
import Derived.Test.YtcblcjbflgepoaaLaw21a
namespace Go.Proofs.Ytcblcjbflgepoaa
open Go.RowKit
set_option maxRecDepth 100000

def polZ : Pol := ⟨0, 0, 0, 0, 0, fun _ => ByteArray.empty⟩
theorem keep_none (S : List Snp) (i : Nat) : keepAt polZ S i = false := by
  unfold keepAt keepX tagd mk1 polZ
  simp
theorem chk_z (S : List Snp) : chk polZ S = 0 ∨ chk polZ S = 4 := by
  unfold chk
  have h : ¬ polBad polZ := by unfold polBad polZ; simp
  rw [if_neg h]
  split
  · exact .inl rfl
  · exact .inr rfl
theorem chk_zz {P : Pol} {S : List Snp} (h : chk P S = 0) : chk polZ S = 0 := by
  have h2 := (chk_zero h).2
  unfold chk
  have h : ¬ polBad polZ := by unfold polBad polZ; simp
  rw [if_neg h, if_pos h2]
/-- Of the first k: kept by no tag, and tagged. -/
def tagK (P : Pol) (S : List Snp) : Nat → Nat
  | 0 => 0
  | k + 1 => tagK P S k + (if tagd P (sn S k) then 1 else 0)
/-- Sums of the first k of four, each at most 25. -/
def psum (q : Nat → Int) : Nat → Int
  | 0 => 0
  | k + 1 => psum q k + min (q k) 25
theorem both_le (P : Pol) (S : List Snp) (k : Nat) : untK P S k + tagK P S k ≤ k := by
  induction k with
  | zero => exact Nat.le_refl _
  | succ k ih =>
    unfold untK tagK
    cases tagd P (sn S k) <;> cases keepAt P S k <;> simp <;> omega
theorem keep_tag {P : Pol} {S : List Snp} {i : Nat} (h : tagd P (sn S i) = true) : keepAt P S i = true := by
  unfold keepAt keepX
  rw [h]; simp

set_option maxHeartbeats 8000000 in
theorem counts_bad (P : Pol) (ta : Option Addr) (tc : Nat) (a : Option Addr) (len cap : Nat) (S : List Snp) (hS : S.length = len) (hl : len ≤ cap) (hc : cap ≤ 9223372036854775807) (hnil : a = none → len = 0 ∧ cap = 0) (w : World)
    (hr : SnRow w a S) (hk : chk P (S.take 25) ≠ 0) :
    Calls Try.prog 9 #[.agg (polc P ta tc), .slice a len cap] w fun e w' => e = .returned (.bool true) ∧ Below w.heap.size w w' := by
  have hb0 := (Below.refl w.heap.size w).alloc (Nat.le_refl _) (.cells (polc P ta tc) 36)
  have hpb := Blk.new w 36 (polc P ta tc)
  have hlt : w.heap.size < (w.alloc (.cells (polc P ta tc) 36)).heap.size := by simp
  have CF := Lib.hid (fun W hr => few21_any a len cap S hS hl hc hnil W hr)
  have hr1 := hr.below hb0 (Nat.le_refl _)
  obtain ⟨T, HT⟩ : ∃ T, Hid (S.take 25 = T) := ⟨_, Lib.hid (Eq.refl _)⟩
  have hTl : T.length ≤ 25 := by rw [← HT.out, List.length_take]; omega
  rw [HT.out] at hk CF
  have C1 := Lib.hid (fun a cap W hr => keep_bad P ta tc a cap T (by omega) W hr hk)
  have CZ1 : Hid (chk polZ T ≠ 0 → ∀ a cap W, SnRow W a T → Calls Try.prog 22 #[.agg (polc polZ none 0), .slice a T.length cap] W fun e w' => e = .returned (.tuple #[.slice none 0 0, .int .i64 (chk polZ T : Int)]) ∧ Below W.heap.size W w') :=
    fun hz a cap W hr => keep_bad polZ none 0 a cap T (by omega) W hr hz
  have CZ2 : Hid (chk polZ T = 0 → ∀ a cap W, SnRow W a T → Calls Try.prog 22 #[.agg (polc polZ none 0), .slice a T.length cap] W fun e w' => ∃ g, e = .returned (.tuple #[.slice (some ⟨g, 0, none⟩) T.length T.length, .int .i64 0]) ∧ W.heap.size ≤ g ∧
      Blk w' g 4 (fcells T.length (kcell (keepAt polZ T))) ∧ Below W.heap.size W w') :=
    fun hz a cap W hr => keep_good polZ none 0 (by decide) a cap T (by omega) W (.inl rfl) hr hz ⟨by decide, by decide, by decide, by decide⟩
  have hz4 := chk_z T
  obtain ⟨c, Hc⟩ : ∃ c, Hid (chk P T = c) := ⟨_, Lib.hid (Eq.refl _)⟩
  rw [Hc.out] at hk C1
  obtain ⟨z, Hz⟩ : ∃ c, Hid (chk polZ T = c) := ⟨_, Lib.hid (Eq.refl _)⟩
  rw [Hz.out] at hz4 CZ1 CZ2
  have hpz : Hid (polc polZ none 0 = #[.int .i64 0, .int .i64 0, .int .i64 0, .int .i64 0, .slice none 0 0]) := rfl
  rw [hpz.out] at CZ1 CZ2
  have hne : ((c : Int) != 0) = true := by simp; omega
  obtain ⟨N, HN⟩ : ∃ N, Hid (T.length = N) := ⟨_, Lib.hid (Eq.refl _)⟩
  rw [HN.out] at hTl C1 CZ1 CZ2
  have Hr := Lib.hid hr1
  unfold polc at hb0 hpb hlt C1 Hr ⊢
  have Hb := Lib.hid hb0
  have HP := Lib.hid hpb
  clear hb0 hpb hr hr1 hk
  obtain ⟨pa, pb, pc, pd, pn, pm⟩ := P
  simp only at Hb HP hlt C1 Hr ⊢
  go_enter Try.func9, Try.ntmps9
  go_wp2_with fail
  generalize w.alloc (.cells #[.int .i64 pa, .int .i64 pb, .int .i64 pc, .int .i64 pd, .slice ta pn tc] 36) = w1 at *
  obtain ⟨p, Hp⟩ : ∃ p, Hid (w.heap.size = p) := ⟨_, Lib.hid (Eq.refl _)⟩
  rw [Hp.out] at hlt HP ⊢
  refine (CF.out _ Hr.out).mono ?_
  rintro e w2 ⟨v, rfl, hO, hb2⟩
  obtain ⟨a2, cap2, rfl, hc1, hc2, hS2, _⟩ := hO.view
  have HB2 := Lib.hid (bthen Hb.out hb2)
  have HP2 := Lib.hid (HP.out.below hb2 hlt)
  have HS2 := Lib.hid hS2
  rw [HN.out] at hc1 ⊢
  clear Hb HP hlt hb2 hO hS2
  have p0 := HP2.out.cell 0
  have p1 := HP2.out.cell 1
  have p2 := HP2.out.cell 2
  have p3 := HP2.out.cell 3
  have p4 := HP2.out.cell 4
  simp at p0 p1 p2 p3 p4
  go_wp2_with fail
  refine (C1.out _ _ _ HS2.out).mono ?_
  rintro e w3 ⟨rfl, hb3⟩
  have HB3 := Lib.hid (bthen HB2.out hb3)
  have HS3 := Lib.hid (HS2.out.below hb3 (Nat.le_refl _))
  clear HB2 HP2 hb3 HS2 p0 p1 p2 p3 p4
  rcases hz4 with rfl | rfl
  · have CZ := Lib.hid (CZ2.out rfl)
    clear CZ1 CZ2
    go_wp2_with fail
    refine (CZ.out _ _ _ HS3.out).mono ?_
    rintro e w4 ⟨g, rfl, _, _, hb4⟩
    have HB4 := Lib.hid (bthen HB3.out hb4)
    clear HB3 HS3 hb4
    go_wp2_with fail
    refine (awake21_any _).mono ?_
    rintro e w6 ⟨rfl, hb6⟩
    go_wp2_with fail
    go_ret
    exact ⟨rfl, bthen HB4.out hb6⟩
  · have CZ := Lib.hid (CZ1.out (by decide))
    clear CZ1 CZ2
    go_wp2_with fail
    refine (CZ.out _ _ _ HS3.out).mono ?_
    rintro e w4 ⟨rfl, hb4⟩
    have HB4 := Lib.hid (bthen HB3.out hb4)
    clear HB3 HS3 hb4
    by_cases hN0 : N = 0
    · subst hN0
      go_wp2_with fail
      refine (awake21_any _).mono ?_
      rintro e w6 ⟨rfl, hb6⟩
      go_wp2_with fail
      go_ret
      exact ⟨rfl, bthen HB4.out hb6⟩
    · have hN1 : ((0 : Int) == (N : Int)) = false := by simp; omega
      go_wp2_with fail
      refine (awake21_any _).mono ?_
      rintro e w6 ⟨rfl, hb6⟩
      go_wp2_with fail
      go_ret
      exact ⟨rfl, bthen HB4.out hb6⟩

set_option maxHeartbeats 8000000 in
theorem counts_good (P : Pol) (hP : PolFit P) (ta : Option Addr) (tc : Nat) (a : Option Addr) (len cap : Nat) (S : List Snp) (hS : S.length = len) (hl : len ≤ cap) (hc : cap ≤ 9223372036854775807) (hnil : a = none → len = 0 ∧ cap = 0) (w : World)
    (hT : SRow w ta P.n P.m) (hr : SnRow w a S) (hk : chk P (S.take 25) = 0) :
    Calls Try.prog 9 #[.agg (polc P ta tc), .slice a len cap] w fun e w' => e = .returned (.bool true) ∧ Below w.heap.size w w' := by
  have hb0 := (Below.refl w.heap.size w).alloc (Nat.le_refl _) (.cells (polc P ta tc) 36)
  have hpb := Blk.new w 36 (polc P ta tc)
  have hlt : w.heap.size < (w.alloc (.cells (polc P ta tc) 36)).heap.size := by simp
  have CF := Lib.hid (fun W hr => few21_any a len cap S hS hl hc hnil W hr)
  have hr1 := hr.below hb0 (Nat.le_refl _)
  obtain ⟨T, HT⟩ : ∃ T, Hid (S.take 25 = T) := ⟨_, Lib.hid (Eq.refl _)⟩
  have hTl : T.length ≤ 25 := by rw [← HT.out, List.length_take]; omega
  rw [HT.out] at hk CF
  obtain ⟨hpg, hok⟩ := chk_zero hk
  have HTg := Lib.hid (hT.below hb0)
  have C1 := Lib.hid (fun a cap W hT hr => keep_good P ta tc hP.1 a cap T (by omega) W hT hr hk hP.2)
  have CZ : Hid (∀ a cap W, SnRow W a T → Calls Try.prog 22 #[.agg (polc polZ none 0), .slice a T.length cap] W fun e w' => ∃ g, e = .returned (.tuple #[.slice (some ⟨g, 0, none⟩) T.length T.length, .int .i64 0]) ∧ W.heap.size ≤ g ∧
      Blk w' g 4 (fcells T.length (kcell (keepAt polZ T))) ∧ Below W.heap.size W w') :=
    fun a cap W hr => keep_good polZ none 0 (by decide) a cap T (by omega) W (.inl rfl) hr (chk_zz hk) ⟨by decide, by decide, by decide, by decide⟩
  have hkz : keepAt polZ T = fun _ => false := funext fun i => keep_none T i
  have hpz : Hid (polc polZ none 0 = #[.int .i64 0, .int .i64 0, .int .i64 0, .int .i64 0, .slice none 0 0]) := rfl
  rw [hpz.out, hkz] at CZ
  have hmost := unt_most P T hpg hTl
  rw [← unt_all] at hmost
  have hboth := both_le P T
  have hus : ∀ k, untK P T (k + 1) = untK P T k + (if keepAt P T k && !tagd P (sn T k) then 1 else 0) := fun k => rfl
  have hts : ∀ k, tagK P T (k + 1) = tagK P T k + (if tagd P (sn T k) then 1 else 0) := fun k => rfl
  have hkt : ∀ k, tagd P (sn T k) = true → keepAt P T k = true := fun k h => keep_tag h
  have htd : ∀ k, tagd P (sn T k) = (List.range P.n).any fun i => (P.m i).toList == (sn T k).tag.toList := fun k => rfl
  have hu0 : untK P T 0 = 0 := rfl
  have ht0 : tagK P T 0 = 0 := rfl
  obtain ⟨KV, HKV⟩ : ∃ f, Hid (keepAt P T = f) := ⟨_, Lib.hid (Eq.refl _)⟩
  obtain ⟨UK, HUK⟩ : ∃ f, Hid (untK P T = f) := ⟨_, Lib.hid (Eq.refl _)⟩
  obtain ⟨TK, HTK⟩ : ∃ f, Hid (tagK P T = f) := ⟨_, Lib.hid (Eq.refl _)⟩
  obtain ⟨TD, HTD⟩ : ∃ f, Hid ((fun k => tagd P (sn T k)) = f) := ⟨_, Lib.hid (Eq.refl _)⟩
  have HTDk : ∀ k, tagd P (sn T k) = TD k := fun k => by rw [← HTD.out]
  simp only [HTDk] at hus hts hkt htd
  rw [HKV.out] at C1 hus hkt
  rw [HUK.out] at hus hmost hboth hu0
  rw [HTK.out] at hts hboth ht0
  obtain ⟨N, HN⟩ : ∃ N, Hid (T.length = N) := ⟨_, Lib.hid (Eq.refl _)⟩
  rw [HN.out] at hTl C1 CZ hmost
  have Hr := Lib.hid hr1
  have Hus := Lib.hid hus
  have Hts := Lib.hid hts
  have Hkt := Lib.hid hkt
  have Htd := Lib.hid htd
  have Hboth := Lib.hid hboth
  have Hu0 := Lib.hid hu0
  have Ht0 := Lib.hid ht0
  have Hmost := Lib.hid hmost
  have Hpg := Lib.hid hpg
  have HPf := Lib.hid hP.2
  have hpn := hP.1
  unfold polc at hb0 hpb hlt C1 Hr HTg ⊢
  unfold polBad at Hpg
  have Hb := Lib.hid hb0
  have HP := Lib.hid hpb
  clear hb0 hpb hr hr1 hk hT hpg hok hP hus hts hkt htd hboth hu0 ht0 hmost hkz HTDk HTD
  obtain ⟨pa, pb, pc, pd, pn, pm⟩ := P
  simp only at Hb HP hlt C1 Hr HTg Hmost Htd Hpg hpn HPf ⊢
  go_enter Try.func9, Try.ntmps9
  go_wp2_with fail
  generalize w.alloc (.cells #[.int .i64 pa, .int .i64 pb, .int .i64 pc, .int .i64 pd, .slice ta pn tc] 36) = w1 at *
  obtain ⟨p, Hp⟩ : ∃ p, Hid (w.heap.size = p) := ⟨_, Lib.hid (Eq.refl _)⟩
  rw [Hp.out] at hlt HP ⊢
  refine (CF.out _ Hr.out).mono ?_
  rintro e w2 ⟨v, rfl, hO, hb2⟩
  obtain ⟨a2, cap2, rfl, hc1, hc2, hS2, _⟩ := hO.view
  have HB2 := Lib.hid (bthen Hb.out hb2)
  have HP2 := Lib.hid (HP.out.below hb2 hlt)
  have hlt2 : p < w2.heap.size := Nat.lt_of_lt_of_le hlt hb2.size
  have HS2 := Lib.hid hS2
  have HT2 := Lib.hid (HTg.out.below hb2)
  rw [HN.out] at hc1 ⊢
  clear Hb HP hlt hb2 hO hS2 HTg
  have p0 := HP2.out.cell 0
  have p1 := HP2.out.cell 1
  have p2 := HP2.out.cell 2
  have p3 := HP2.out.cell 3
  have p4 := HP2.out.cell 4
  simp at p0 p1 p2 p3 p4
  go_wp2_with fail
  refine (C1.out _ _ _ HT2.out HS2.out).mono ?_
  rintro e w3 ⟨g, rfl, hg3, hK3, hb3⟩
  have HB3 := Lib.hid (bthen HB2.out hb3)
  have HP3 := Lib.hid (HP2.out.below hb3 hlt2)
  have hlt3 : p < w3.heap.size := Nat.lt_of_lt_of_le hlt2 hb3.size
  have HS3 := Lib.hid (HS2.out.below hb3 (Nat.le_refl _))
  have HT3 := Lib.hid (HT2.out.below hb3)
  have HK3 := Lib.hid hK3
  clear HB2 HP2 hlt2 hb3 HS2 HT2 p0 p1 p2 p3 p4 hK3 hg3
  go_wp2_with fail
  refine (CZ.out _ _ _ HS3.out).mono ?_
  rintro e w4 ⟨gz, rfl, hg4, hZ4, hb4⟩
  have HB4 := Lib.hid (bthen HB3.out hb4)
  have HP4 := Lib.hid (HP3.out.below hb4 hlt3)
  have HS4 := Lib.hid (HS3.out.below hb4 (Nat.le_refl _))
  have HT4 := Lib.hid (HT3.out.below hb4)
  have HK4 := Lib.hid (HK3.out.below hb4 HK3.out.lt)
  have HZ4 := Lib.hid hZ4
  clear HB3 HP3 hlt3 hb4 HS3 HT3 HK3 hZ4 hg4
  have p4 := HP4.out.cell 4
  simp at p4
  go_wp2_with fail
  go_loop [10, 11, 62] (fun n_ t_ i => ∃ k : Nat, k ≤ N ∧ i = .int .i64 (k : Int) ∧ n_ = .int .i64 (UK k : Int) ∧ t_ = .int .i64 (TK k : Int)) (fun _ _ i => N - (intOf i).toNat)
  case atStart => exact ⟨0, by omega, rfl, by rw [Hu0.out]; rfl, by rw [Ht0.out]; rfl⟩
  case round =>
    obtain ⟨k, hk, rfl, rfl, rfl⟩ := hrel
    have hbk := Hboth.out k
    by_cases hlt : k < N
    · obtain ⟨b, off, rfl, _, _, _, c2⟩ := HS4.out.get k (by rw [HN.out]; exact hlt)
      obtain ⟨tg, Htg⟩ : ∃ z, Hid ((sn T k).tag = z) := ⟨_, Lib.hid (Eq.refl _)⟩
      rw [Htg.out] at c2
      have hkc := HK4.out.cell k
      rw [fcells_at _ _ _ hlt] at hkc
      unfold kcell at hkc
      have hzc := HZ4.out.cell k
      rw [fcells_at _ _ _ hlt] at hzc
      unfold kcell at hzc
      have Htdk := Lib.hid (Htd.out k)
      rw [Htg.out] at Htdk
      obtain ⟨uk, Huk⟩ : ∃ z, Hid (UK k = z) := ⟨_, Lib.hid (Eq.refl _)⟩
      obtain ⟨tk, Htk⟩ : ∃ z, Hid (TK k = z) := ⟨_, Lib.hid (Eq.refl _)⟩
      obtain ⟨kv, Hkv⟩ : ∃ z, Hid (KV k = z) := ⟨_, Lib.hid (Eq.refl _)⟩
      obtain ⟨td, Htdv⟩ : ∃ z, Hid (TD k = z) := ⟨_, Lib.hid (Eq.refl _)⟩
      have Hus2 := Lib.hid (Hus.out k)
      have Hts2 := Lib.hid (Hts.out k)
      have Hkt2 := Lib.hid (Hkt.out k)
      rw [Huk.out] at hbk Hus2 ⊢
      rw [Htk.out] at hbk Hts2 ⊢
      rw [Hkv.out] at hkc Hus2 Hkt2
      rw [Htdv.out] at Hus2 Hts2 Hkt2 Htdk
      go_wp2_with fail
      go_loop [14, 70] (fun s_ j => ∃ (m : Nat) (bs : Bool), m ≤ pn ∧ j = .int .i64 (m : Int) ∧ s_ = .bool bs ∧ Hid (bs = (List.range m).any fun i => (pm i).toList == tg.toList)) (fun _ j => pn - (intOf j).toNat)
      case atStart => exact ⟨0, false, by omega, rfl, rfl, rfl⟩
      case round =>
        obtain ⟨m, bs, hm, rfl, rfl, Hbs⟩ := hrel
        by_cases hltm : m < pn
        · obtain ⟨b2, off2, rfl, _, hc, _⟩ := HT4.out.get m hltm
          obtain ⟨s, Hs⟩ : ∃ s, Hid (pm m = s) := ⟨_, Lib.hid (Eq.refl _)⟩
          rw [Hs.out] at hc
          have Hb2 : Hid (((List.range (m + 1)).any fun i => (pm i).toList == tg.toList) = (bs || (s.toList == tg.toList))) := by
            show _ = _
            rw [Hbs.out, List.range_succ, List.any_append]
            simp [Hs.out]
          cases bs
          · by_cases he : (s.toList == tg.toList) = true
            · go_wp2_with fail
              go_round
              case rel => exact ⟨m + 1, true, by omega, by go_num, rfl, by show _ = _; rw [Hb2.out, he]; rfl⟩
              case measure => simp [intOf]; omega
            · have he2 : (s.toList == tg.toList) = false := by simpa using he
              clear he
              go_wp2_with fail
              go_round
              case rel => exact ⟨m + 1, false, by omega, by go_num, rfl, by show _ = _; rw [Hb2.out, he2]; rfl⟩
              case measure => simp [intOf]; omega
          · go_wp2_with fail
            go_round
            case rel => exact ⟨m + 1, true, by omega, by go_num, rfl, by show _ = _; rw [Hb2.out]; rfl⟩
            case measure => simp [intOf]; omega
        · obtain rfl : m = pn := by omega
          have Hbt : Hid (bs = td) := by show _ = _; rw [Hbs.out, Htdk.out]
          cases bs
          · have htd : td = false := Hbt.out.symm
            rw [htd] at Hus2 Hts2
            cases kv
            · have hu2 : UK (k + 1) = uk := by rw [Hus2.out]; rfl
              have ht2 : TK (k + 1) = tk := by rw [Hts2.out]; rfl
              have Hu2 := Lib.hid hu2
              have Ht2 := Lib.hid ht2
              clear hu2 ht2 htd
              go_wp2_with fail
              go_round
              case rel => exact ⟨k + 1, by omega, by go_num, by rw [Hu2.out], by rw [Ht2.out]⟩
              case measure => simp [intOf]; omega
            · have hu2 : UK (k + 1) = uk + 1 := by rw [Hus2.out]; rfl
              have ht2 : TK (k + 1) = tk := by rw [Hts2.out]; rfl
              have Hu2 := Lib.hid hu2
              have Ht2 := Lib.hid ht2
              clear hu2 ht2 htd
              go_wp2_with fail
              go_round
              case rel => exact ⟨k + 1, by omega, by go_num, by rw [Hu2.out]; go_num, by rw [Ht2.out]⟩
              case measure => simp [intOf]; omega
          · have htd : td = true := Hbt.out.symm
            rw [htd] at Hus2 Hts2 Hkt2
            have hkv : kv = true := Hkt2.out rfl
            subst hkv
            have hu2 : UK (k + 1) = uk := by rw [Hus2.out]; rfl
            have ht2 : TK (k + 1) = tk + 1 := by rw [Hts2.out]; rfl
            have Hu2 := Lib.hid hu2
            have Ht2 := Lib.hid ht2
            clear hu2 ht2 htd
            go_wp2_with fail
            go_round
            case rel => exact ⟨k + 1, by omega, by go_num, by rw [Hu2.out], by rw [Ht2.out]; go_num⟩
            case measure => simp [intOf]; omega
    · obtain rfl : k = N := by omega
      have p0 := HP4.out.cell 0
      have p1 := HP4.out.cell 1
      have p2 := HP4.out.cell 2
      have p3 := HP4.out.cell 3
      simp at p0 p1 p2 p3
      obtain ⟨uk, Huk⟩ : ∃ z, Hid (UK k = z) := ⟨_, Lib.hid (Eq.refl _)⟩
      obtain ⟨tk, Htk⟩ : ∃ z, Hid (TK k = z) := ⟨_, Lib.hid (Eq.refl _)⟩
      rw [Huk.out] at hbk Hmost ⊢
      rw [Htk.out] at hbk ⊢
      go_wp2_with fail
      obtain ⟨q, Hq⟩ : ∃ q : Nat → Int, Hid (q 0 = pa ∧ q 1 = pb ∧ q 2 = pc ∧ q 3 = pd) := ⟨fun j => if j = 0 then pa else if j = 1 then pb else if j = 2 then pc else pd, rfl, rfl, rfl, rfl⟩
      obtain ⟨q0, q1, q2, q3⟩ := Hq.out
      have hblk := Blk.new w4 3 #[.int .i64 pa, .int .i64 pb, .int .i64 pc, .int .i64 pd]
      have HB5 := Lib.hid (HB4.out.alloc HB4.out.size (.cells #[.int .i64 pa, .int .i64 pb, .int .i64 pc, .int .i64 pd] 3))
      obtain ⟨B, HBs⟩ : ∃ g, Hid (w4.heap.size = g) := ⟨_, Lib.hid (Eq.refl _)⟩
      rw [HBs.out] at hblk ⊢
      generalize w4.alloc (.cells #[.int .i64 pa, .int .i64 pb, .int .i64 pc, .int .i64 pd] 3) = w5 at *
      have Hqc : Hid (∀ j, j < 4 → w5.cell? ⟨B, j, none⟩ = some (.int .i64 (q j)) ∧ 0 ≤ q j ∧ q j ≤ 9223372036854775807) := by
        intro j hj
        have h1 := Hpg.out
        have h2 := HPf.out
        have : j = 0 ∨ j = 1 ∨ j = 2 ∨ j = 3 := by omega
        rcases this with rfl | rfl | rfl | rfl
        · rw [hblk.cell, q0]; exact ⟨rfl, by omega, by omega⟩
        · rw [hblk.cell, q1]; exact ⟨rfl, by omega, by omega⟩
        · rw [hblk.cell, q2]; exact ⟨rfl, by omega, by omega⟩
        · rw [hblk.cell, q3]; exact ⟨rfl, by omega, by omega⟩
      have Hsum : Hid (psum q 4 = min pa 25 + min pb 25 + min pc 25 + min pd 25) := by
        show _ = _
        show 0 + min (q 0) 25 + min (q 1) 25 + min (q 2) 25 + min (q 3) 25 = _
        rw [q0, q1, q2, q3]; omega
      clear q0 q1 q2 q3 hblk p0 p1 p2 p3 p4
      go_loop [17, 108] (fun s_ j => ∃ (m : Nat) (s : Int), m ≤ 4 ∧ j = .int .i64 (m : Int) ∧ s_ = .int .i64 s ∧ 0 ≤ s ∧ s ≤ 25 * (m : Int) ∧ Hid (s = psum q m)) (fun _ j => 4 - (intOf j).toNat)
      case atStart => exact ⟨0, 0, by omega, rfl, rfl, by omega, by omega, rfl⟩
      case round =>
        obtain ⟨m, s, hm, rfl, rfl, hs0, hs1, Hs⟩ := hrel
        by_cases hm4 : m < 4
        · obtain ⟨hc, hq0, hq1⟩ := Hqc.out m hm4
          obtain ⟨x, Hx⟩ : ∃ x, Hid (q m = x) := ⟨_, Lib.hid (Eq.refl _)⟩
          have Hs2 : Hid (psum q (m + 1) = s + min x 25) := by show psum q m + min (q m) 25 = _; rw [Hs.out, Hx.out]
          rw [Hx.out] at hc hq0 hq1
          by_cases h25 : 25 < x
          · have h25b : ¬ x ≤ 25 := by omega
            go_wp2_with fail
            go_round
            case rel => exact ⟨m + 1, s + 25, by omega, by go_num, rfl, by omega, by omega, by show _ = _; rw [Hs2.out, Int.min_eq_right (by omega)]⟩
            case measure => simp [intOf]; omega
          · have h25b : x ≤ 25 := by omega
            go_wp2_with fail
            go_round
            case rel => exact ⟨m + 1, s + x, by omega, by go_num, rfl, by omega, by omega, by show _ = _; rw [Hs2.out, Int.min_eq_left h25b]⟩
            case measure => simp [intOf]; omega
        · obtain rfl : m = 4 := by omega
          have hle : (uk : Int) ≤ s := by rw [Hs.out, Hsum.out]; exact Hmost.out
          have hd1 : decide ((uk : Int) ≤ s) = true := by simpa using hle
          have hd2 : decide ((uk : Int) + (tk : Int) ≤ (k : Int)) = true := by simp; omega
          clear hle
          go_wp2_with fail
          refine (awake21_any _).mono ?_
          rintro e w6 ⟨rfl, hb6⟩
          go_wp2_with fail
          go_ret
          exact ⟨rfl, bthen HB5.out hb6⟩

theorem counts_any (P : Pol) (hP : PolFit P) (ta : Option Addr) (tc : Nat) (a : Option Addr) (len cap : Nat) (S : List Snp) (hS : S.length = len) (hl : len ≤ cap) (hc : cap ≤ 9223372036854775807) (hnil : a = none → len = 0 ∧ cap = 0) (w : World)
    (hT : SRow w ta P.n P.m) (hr : SnRow w a S) :
    Calls Try.prog 9 #[.agg (polc P ta tc), .slice a len cap] w fun e w' => e = .returned (.bool true) ∧ Below w.heap.size w w' := by
  by_cases h : chk P (S.take 25) = 0
  · exact counts_good P hP ta tc a len cap S hS hl hc hnil w hT hr h
  · exact counts_bad P ta tc a len cap S hS hl hc hnil w hr h
end Go.Proofs.Ytcblcjbflgepoaa
