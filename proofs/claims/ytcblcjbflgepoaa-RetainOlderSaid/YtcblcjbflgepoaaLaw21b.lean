/- RetainOlder's walk. Conditions: rows that Go can hold. -/
import Derived.Test.YtcblcjbflgepoaaLaw21a
import Derived.Deep.RegionHeld3
namespace Go.Proofs.Ytcblcjbflgepoaa
open Go.RowKit
set_option maxRecDepth 100000

theorem OwnN.form {w : World} {base : Nat} {v : Value} {S : List Snp} (h : OwnN w base v S) : (v = .slice none 0 0 ∧ S = []) ∨ ∃ g cap, v = .slice (some ⟨g, 0, none⟩) S.length cap ∧ S.length ≤ cap ∧ cap ≤ 9223372036854775807 ∧ SnRow w (some ⟨g, 0, none⟩) S := by
  obtain ⟨a, cap, e, h1, h2, h3, _⟩ := h.view
  rcases h.2 with ⟨rfl, hl⟩ | ⟨g, cap', cur, rfl, _⟩
  · exact .inl ⟨rfl, List.length_eq_zero_iff.1 hl⟩
  · injection e with e1 e2 e3
    subst e1 e3
    exact .inr ⟨g, cap', rfl, h1, h2, h3⟩
theorem chk_drop {P : Pol} {S : List Snp} (h : chk P S = 0) (n : Nat) : chk P (S.drop n) = 0 := by
  obtain ⟨h1, h2⟩ := chk_zero h
  unfold chk
  rw [if_neg h1, if_pos (h2.drop n)]
theorem pol_held {w0 W W' : World} {p : Nat} {a b c d e : Value} (h : W.cell? ⟨p, 0, none⟩ = some a ∧ W.cell? ⟨p, 1, none⟩ = some b ∧ W.cell? ⟨p, 2, none⟩ = some c ∧ W.cell? ⟨p, 3, none⟩ = some d ∧ W.cell? ⟨p, 4, none⟩ = some e ∧ p < W.heap.size ∧ Below w0.heap.size w0 W) (hb : Below W.heap.size W W') :
    W'.cell? ⟨p, 0, none⟩ = some a ∧ W'.cell? ⟨p, 1, none⟩ = some b ∧ W'.cell? ⟨p, 2, none⟩ = some c ∧ W'.cell? ⟨p, 3, none⟩ = some d ∧ W'.cell? ⟨p, 4, none⟩ = some e ∧ p < W'.heap.size ∧ Below w0.heap.size w0 W' := by
  obtain ⟨h0, h1, h2, h3, h4, h5, h6⟩ := h
  exact ⟨(hb.cell h5).trans h0, (hb.cell h5).trans h1, (hb.cell h5).trans h2, (hb.cell h5).trans h3, (hb.cell h5).trans h4, Nat.lt_of_lt_of_le h5 hb.size, bthen h6 hb⟩

set_option maxHeartbeats 8000000 in
theorem older_any (P : Pol) (hP : PolFit P) (ta : Option Addr) (tc : Nat) (a : Option Addr) (len cap : Nat) (S : List Snp) (hS : S.length = len) (hl : len ≤ cap) (hc : cap ≤ 9223372036854775807) (hnil : a = none → len = 0 ∧ cap = 0) (n : Int) (w : World)
    (hT : SRow w ta P.n P.m) (hr : SnRow w a S) :
    Calls Try.prog 10 #[.agg (polc P ta tc), .slice a len cap, .int .i64 n] w fun e w' => e = .returned (.bool true) ∧ Below w.heap.size w w' := by
  have hb0 := (Below.refl w.heap.size w).alloc (Nat.le_refl _) (.cells (polc P ta tc) 36)
  have hpb := Blk.new w 36 (polc P ta tc)
  have hlt : w.heap.size < (w.alloc (.cells (polc P ta tc) 36)).heap.size := by simp
  have CF := Lib.hid (fun W hr => few21_nn a len cap S hS hl hc hnil W hr)
  have hr1 := hr.below hb0 (Nat.le_refl _)
  obtain ⟨T, HT⟩ : ∃ T, Hid (S.take 25 = T) := ⟨_, Lib.hid (Eq.refl _)⟩
  have hTl : T.length ≤ 25 := by rw [← HT.out, List.length_take]; omega
  rw [HT.out] at CF
  have HTg := Lib.hid (hT.below hb0)
  obtain ⟨N, HN⟩ : ∃ N, Hid (T.length = N) := ⟨_, Lib.hid (Eq.refl _)⟩
  have Hr := Lib.hid hr1
  have CB := Lib.hid (fun (hk : chk P T ≠ 0) a cap W hr => keep_bad P ta tc a cap T (by omega) W hr hk)
  have CK := Lib.hid (fun (hk : chk P T = 0) a cap W hT hr => keep_good P ta tc hP.1 a cap T (by omega) W hT hr hk hP.2)
  have CD := Lib.hid (fun (hk : chk P T = 0) (m : Nat) a cap W hT hr => keep_good P ta tc hP.1 a cap (T.drop m) (by rw [List.length_drop]; omega) W hT hr (chk_drop hk m) hP.2)
  have hdr : ∀ m i, keepAt P (T.drop m) i = keepAt P T (m + i) := fun m i => keepAt_drop P T m i
  have Hdr := Lib.hid hdr
  obtain ⟨KV, HKV⟩ : ∃ f, Hid (keepAt P T = f) := ⟨_, Lib.hid (Eq.refl _)⟩
  rw [HKV.out] at CK Hdr
  obtain ⟨c, Hc⟩ : ∃ c, Hid (chk P T = c) := ⟨_, Lib.hid (Eq.refl _)⟩
  rw [Hc.out] at CB CK CD
  rw [HN.out] at hTl CB CK
  obtain ⟨KD, HKD⟩ : ∃ f, Hid ((fun m => keepAt P (T.drop m)) = f) := ⟨_, Lib.hid (Eq.refl _)⟩
  have CD2 : Hid (c = 0 → ∀ (m : Nat) a cap W, SRow W ta P.n P.m → SnRow W a (T.drop m) → Calls Try.prog 22 #[.agg (polc P ta tc), .slice a (N - m) cap] W fun e w' => ∃ g, e = .returned (.tuple #[.slice (some ⟨g, 0, none⟩) (N - m) (N - m), .int .i64 0]) ∧ W.heap.size ≤ g ∧
      Blk w' g 4 (fcells (N - m) (kcell (KD m))) ∧ Below W.heap.size W w') := by
    intro hk m a cap W hT hr
    have h := CD.out hk m a cap W hT hr
    rw [List.length_drop, HN.out] at h
    have e : keepAt P (T.drop m) = KD m := by rw [← HKD.out]
    rw [e] at h
    exact h
  have Hdr2 : Hid (∀ m i, KD m i = KV (m + i)) := fun m i => by rw [← Hdr.out m i, ← HKD.out]
  clear CD Hdr hdr
  unfold polc at hb0 hpb hlt CB CK CD2 Hr HTg ⊢
  have Hb := Lib.hid hb0
  have HP := Lib.hid hpb
  clear hb0 hpb hr hr1 hT hP
  obtain ⟨pa, pb, pc, pd, pn, pm⟩ := P
  simp only at Hb HP hlt CB CK CD2 Hr HTg ⊢
  go_enter Try.func10, Try.ntmps10
  go_wp2_with fail
  generalize w.alloc (.cells #[.int .i64 pa, .int .i64 pb, .int .i64 pc, .int .i64 pd, .slice ta pn tc] 36) = w1 at *
  obtain ⟨p, Hp⟩ : ∃ p, Hid (w.heap.size = p) := ⟨_, Lib.hid (Eq.refl _)⟩
  rw [Hp.out] at hlt HP ⊢
  refine (CF.out _ Hr.out).mono ?_
  rintro e w2 ⟨v, rfl, hO, hb2, hnn⟩
  have HB2 := Lib.hid (bthen Hb.out hb2)
  have HP2 := Lib.hid (HP.out.below hb2 hlt)
  have hlt2 : p < w2.heap.size := Nat.lt_of_lt_of_le hlt hb2.size
  have HT2 := Lib.hid (HTg.out.below hb2)
  have hfm : ∃ a2 cap2, v = .slice a2 N cap2 ∧ N ≤ cap2 ∧ cap2 ≤ 9223372036854775807 ∧ SnRow w2 a2 T ∧ (∃ g, a2 = some ⟨g, 0, none⟩) := by
    rcases hO.form with ⟨rfl, h0⟩ | ⟨g, cap2, rfl, h1, h2, h3⟩
    · exact absurd rfl hnn
    · rw [HN.out] at h1 ⊢
      exact ⟨_, _, rfl, h1, h2, h3, ⟨g, rfl⟩⟩
  obtain ⟨a2, cap2, rfl, hc1, hc2, hS2, hfm⟩ := hfm
  have HS2 := Lib.hid hS2
  have Hfm := Lib.hid hfm
  clear Hb HP hlt hb2 hO hS2 HTg hfm
  have p0 := HP2.out.cell 0
  have p1 := HP2.out.cell 1
  have p2 := HP2.out.cell 2
  have p3 := HP2.out.cell 3
  have p4 := HP2.out.cell 4
  simp at p0 p1 p2 p3 p4
  by_cases hck : c = 0
  · have CKz := Lib.hid (CK.out hck)
    have CDz := Lib.hid (CD2.out hck)
    clear CK CD2 CB
    subst hck
    go_wp2_with fail
    refine (CKz.out _ _ _ HT2.out HS2.out).mono ?_
    rintro e w3 ⟨g, rfl, hg3, hK3, hb3⟩
    have HB3 := Lib.hid (bthen HB2.out hb3)
    have HP3 := Lib.hid (HP2.out.below hb3 hlt2)
    have hlt3 : p < w3.heap.size := Nat.lt_of_lt_of_le hlt2 hb3.size
    have HS3 := Lib.hid (HS2.out.below hb3 (Nat.le_refl _))
    have HT3 := Lib.hid (HT2.out.below hb3)
    have HK3 := Lib.hid hK3
    clear HB2 HP2 hlt2 hb3 HS2 HT2 p0 p1 p2 p3 p4 hK3 hg3
    by_cases h1 : n < 0
    · have d1 : decide (n < 0) = true := by simpa using h1
      go_wp2_with fail
      refine (awake21_any _).mono ?_
      rintro e w6 ⟨rfl, hb6⟩
      go_wp2_with fail
      go_ret
      exact ⟨rfl, bthen HB3.out hb6⟩
    have d1 : decide (n < 0) = false := by simpa using h1
    by_cases h2 : (N : Int) < n
    · have d2 : decide ((N : Int) < n) = true := by simpa using h2
      go_wp2_with fail
      refine (awake21_any _).mono ?_
      rintro e w6 ⟨rfl, hb6⟩
      go_wp2_with fail
      go_ret
      exact ⟨rfl, bthen HB3.out hb6⟩
    have d2 : decide ((N : Int) < n) = false := by simpa using h2
    obtain ⟨m, rfl⟩ : ∃ m : Nat, n = (m : Int) := ⟨n.toNat, by omega⟩
    have hmN : m ≤ N := by omega
    clear d1 d2 h1 h2
    obtain ⟨M, rfl⟩ : ∃ M, N = m + M := ⟨N - m, by omega⟩
    obtain ⟨cx, rfl⟩ : ∃ cx, cap2 = m + cx := ⟨cap2 - m, by omega⟩
    clear hmN
    have d1 : decide ((m : Int) < 0) = false := by simp
    have d2 : decide ((m : Int) + (M : Int) < (m : Int)) = false := by simp; omega
    have p0 := HP3.out.cell 0
    have p1 := HP3.out.cell 1
    have p2 := HP3.out.cell 2
    have p3 := HP3.out.cell 3
    have p4 := HP3.out.cell 4
    simp at p0 p1 p2 p3 p4
    have hdrop := HS3.out.dropped m (by rw [HN.out]; omega)
    rw [HN.out] at hdrop
    have cd := CDz.out m
    rw [show m + M - m = M by omega] at cd hdrop
    have hB0 := HB3.out.drew
    have hm0 : (0 : Int) ≤ (m : Int) := by omega
    have hm1 : (m : Int) ≤ (m : Int) + (M : Int) := by omega
    have hrow0 : ∀ (x : Option Addr) W, M = 0 → SnRow W x (T.drop m) := fun x W h => .inl (by rw [List.length_drop, HN.out]; omega)
    have hrow : ∀ ga, a2 = some ⟨ga, 0, none⟩ → ∀ W, W.heap = w3.heap → SnRow W (some ⟨ga, m * 3, none⟩) (T.drop m) := by
      rintro ga rfl W hW
      have h1 : SnRow w3 (some ⟨ga, m * 3, none⟩) (T.drop m) := by
        rcases hdrop with h | ⟨b, off, e, h⟩
        · exact hrow0 _ _ (by omega)
        · injection e with e
          injection e with e1 e2
          subst e1 e2
          rw [Nat.zero_add] at h
          exact h
      rcases h1 with h | ⟨b, off, e1, e2, e3⟩
      · exact .inl h
      · refine .inr ⟨b, off, e1, by rw [hW]; exact e2, fun i hi => ?_⟩
        have e : ∀ o, W.cell? ⟨b, o, none⟩ = w3.cell? ⟨b, o, none⟩ := fun o => by unfold World.cell?; rw [hW]
        rw [e, e, e]
        exact e3 i hi
    have hsplit : (∃ g, a2 = some ⟨g, 0, none⟩ ∧ cx = 0) ∨ ∃ g, a2 = some ⟨g, 0, none⟩ ∧ ¬ cx = 0 := by
      obtain ⟨g, h⟩ := Hfm.out
      by_cases h0 : cx = 0
      · exact .inl ⟨g, h, h0⟩
      · exact .inr ⟨g, h, h0⟩
    have Hrow := Lib.hid hrow
    have Hrow0 := Lib.hid hrow0
    have Cd := Lib.hid cd
    clear hdrop hrow hrow0 cd Hfm HS3
    have HTd : Hid (SRow w3.drew ta pn pm) := HT3.out.below (below_drewN (Below.refl w3.heap.size w3) 1)
    have hx : ∃ ga off capx, (w3.drew.heap = w3.heap) ∧ SnRow w3.drew (some ⟨ga, off, none⟩) (T.drop m) ∧ ((cx = 0 ∧ a2 = some ⟨ga, 0, none⟩ ∧ off = 0 ∧ capx = 0) ∨ (¬ cx = 0 ∧ a2 = some ⟨ga, 0, none⟩ ∧ off = m * 3 ∧ capx = cx)) := by
      rcases hsplit with ⟨ga, h1, hcz⟩ | ⟨ga, h1, hcz⟩
      · exact ⟨ga, 0, 0, rfl, Hrow0.out _ _ (by omega), .inl ⟨hcz, h1, rfl, rfl⟩⟩
      · exact ⟨ga, m * 3, cx, rfl, Hrow.out ga h1 _ rfl, .inr ⟨hcz, h1, rfl, rfl⟩⟩
    clear Hrow Hrow0 HT3 hsplit
    obtain ⟨ga, off, capx, hh0, hSd, hx⟩ := hx
    clear hh0 hnn
    have HSd := Lib.hid hSd
    clear hSd
    have H2 := Lib.hid (Cd.out (some ⟨ga, off, none⟩) capx w3.drew HTd.out HSd.out)
    clear Cd HTd HSd
    rcases hx with ⟨hcz, rfl, rfl, rfl⟩ | ⟨hcz, rfl, rfl, rfl⟩
    all_goals
      go_wp2_with fail
      go_region_with (first | (go_at_call 22; refine H2.out.mono ?_; rintro e w4 ⟨g4, rfl, hg4, hK4, hb4⟩))
      have HB4 := Lib.hid (bthen hB0 hb4)
      have HK4 := Lib.hid (HK3.out.below (w := w3.drew) hb4 HK3.out.lt)
      have HD4 := Lib.hid hK4
      clear hg4 hK4 hb4 HB3 HP3 HK3 p0 p1 p2 p3 p4 hB0 H2 hcz hm0 hm1 d1 d2
      have hsub : (m : Int) + (M : Int) - (m : Int) = (M : Int) := by omega
      go_wp2_with fail
      go_loopw [62] (fun i wr => ∃ k nq : Nat, k ≤ M ∧ i = .int .i64 (k : Int) ∧ Hid (wr = w4.drewN nq)) (fun i _ => M - (intOf i).toNat)
      case atStart => exact ⟨0, 0, by omega, rfl, rfl⟩
      case round =>
        obtain ⟨k, nq, hk, rfl, HW⟩ := hrel
        by_cases hlt4 : k < M
        · first
          | (exfalso; omega)
          | (have hkd := HD4.out.cell k
             rw [fcells_at _ _ _ hlt4] at hkd
             have hkk := HK4.out.cell (m + k)
             rw [fcells_at _ _ _ (by omega)] at hkk
             unfold kcell at hkd hkk
             rw [Hdr2.out] at hkd
             obtain ⟨bb, Hbb⟩ : ∃ b, Hid (KV (m + k) = b) := ⟨_, Lib.hid (Eq.refl _)⟩
             rw [Hbb.out] at hkd hkk
             have hkd2 : wr.cell? ⟨g4, k, none⟩ = some (.bool bb) := by rw [HW.out]; exact hkd
             have hkk2 : wr.cell? ⟨g, m + k, none⟩ = some (.bool bb) := by rw [HW.out]; exact hkk
             have hbn : (bb != bb) = false := by simp
             clear hkd hkk
             go_wp2_with fail
             go_quiet (fail)
             all_goals
               go_wp2_with fail
               go_roundw
               case rel => exact ⟨k + 1, _, by omega, by go_num, by show _ = _; rw [HW.out, World.drewN_drewN]⟩
               case measure => simp [intOf]; omega)
        · obtain rfl : k = M := by omega
          have HB6 : Hid (Below w.heap.size w wr) := by show Below _ _ _; rw [HW.out]; exact below_drewN HB4.out nq
          go_wp2_with fail
          refine (awake21_any _).mono ?_
          rintro e w6 ⟨rfl, hb6⟩
          go_wp2_with fail
          go_ret
          exact ⟨rfl, bthen HB6.out hb6⟩
  · have hne : ((c : Int) != 0) = true := by simp; omega
    go_wp2_with fail
    refine (CB.out hck _ _ _ HS2.out).mono ?_
    rintro e w3 ⟨rfl, hb3⟩
    have HB3 := Lib.hid (bthen HB2.out hb3)
    clear HB2 HP2 hb3 HS2 p0 p1 p2 p3 p4
    go_wp2_with fail
    refine (awake21_any _).mono ?_
    rintro e w6 ⟨rfl, hb6⟩
    go_wp2_with fail
    go_ret
    exact ⟨rfl, bthen HB3.out hb6⟩
end Go.Proofs.Ytcblcjbflgepoaa
