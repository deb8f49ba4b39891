/- The walk of ChunkerEven. Conditions: a text that Go can hold. -/
import Derived.Test.YtgjofpefglbjjaaLaw10c
namespace Go.Proofs.Ytgjofpefglbjjaa
open Go.RowKit
set_option maxRecDepth 100000

set_option maxHeartbeats 2000000 in
theorem even_bad (s : ByteArray) (hs : s.size ≤ maxLen) (mn b mx : Int) (hn : ¬ (1 ≤ mn ∧ mn ≤ 4096 ∧ 0 ≤ b ∧ b ≤ 20 ∧ mn ≤ mx ∧ mx ≤ 4096)) (w : World) :
    Calls Try.prog 14 #[.string s, .int .i64 mn, .int .i64 b, .int .i64 mx] w fun e w' => e = .returned (.bool true) ∧ Below w.heap.size w w' := by
  have CF := Lib.hid (fun W => few_any s 2000 (by decide) hs W)
  obtain ⟨t, ht⟩ : ∃ t, few s 2000 = t := ⟨_, rfl⟩
  rw [ht] at CF
  have Hn := Lib.hid hn
  clear ht hn
  by_cases h0 : mn < 1
  · have d0 : decide (mn < 1) = true := by simpa using h0
    go_enter Try.func14, Try.ntmps14
    go_wp2_with fail
    refine (CF.out _).mono ?_
    rintro e w1 ⟨rfl, rfl⟩
    go_wp2_with fail
    refine (awake10 _).mono ?_
    rintro e w5 ⟨rfl, hb5⟩
    go_wp2_with fail
    go_ret
    exact ⟨rfl, hb5⟩
  have d0 : decide (mn < 1) = false := by simpa using h0
  by_cases h1 : 4096 < mn
  · have d1 : decide (4096 < mn) = true := by simpa using h1
    go_enter Try.func14, Try.ntmps14
    go_wp2_with fail
    refine (CF.out _).mono ?_
    rintro e w1 ⟨rfl, rfl⟩
    go_wp2_with fail
    refine (awake10 _).mono ?_
    rintro e w5 ⟨rfl, hb5⟩
    go_wp2_with fail
    go_ret
    exact ⟨rfl, hb5⟩
  have d1 : decide (4096 < mn) = false := by simpa using h1
  by_cases h2 : b < 0
  · have d2 : decide (b < 0) = true := by simpa using h2
    go_enter Try.func14, Try.ntmps14
    go_wp2_with fail
    refine (CF.out _).mono ?_
    rintro e w1 ⟨rfl, rfl⟩
    go_wp2_with fail
    refine (awake10 _).mono ?_
    rintro e w5 ⟨rfl, hb5⟩
    go_wp2_with fail
    go_ret
    exact ⟨rfl, hb5⟩
  have d2 : decide (b < 0) = false := by simpa using h2
  by_cases h3 : 20 < b
  · have d3 : decide (20 < b) = true := by simpa using h3
    go_enter Try.func14, Try.ntmps14
    go_wp2_with fail
    refine (CF.out _).mono ?_
    rintro e w1 ⟨rfl, rfl⟩
    go_wp2_with fail
    refine (awake10 _).mono ?_
    rintro e w5 ⟨rfl, hb5⟩
    go_wp2_with fail
    go_ret
    exact ⟨rfl, hb5⟩
  have d3 : decide (20 < b) = false := by simpa using h3
  by_cases h4 : mx < mn
  · have d4 : decide (mx < mn) = true := by simpa using h4
    go_enter Try.func14, Try.ntmps14
    go_wp2_with fail
    refine (CF.out _).mono ?_
    rintro e w1 ⟨rfl, rfl⟩
    go_wp2_with fail
    refine (awake10 _).mono ?_
    rintro e w5 ⟨rfl, hb5⟩
    go_wp2_with fail
    go_ret
    exact ⟨rfl, hb5⟩
  have d4 : decide (mx < mn) = false := by simpa using h4
  by_cases h5 : 4096 < mx
  · have d5 : decide (4096 < mx) = true := by simpa using h5
    go_enter Try.func14, Try.ntmps14
    go_wp2_with fail
    refine (CF.out _).mono ?_
    rintro e w1 ⟨rfl, rfl⟩
    go_wp2_with fail
    refine (awake10 _).mono ?_
    rintro e w5 ⟨rfl, hb5⟩
    go_wp2_with fail
    go_ret
    exact ⟨rfl, hb5⟩
  have d5 : decide (4096 < mx) = false := by simpa using h5
  exact absurd ⟨by omega, by omega, by omega, by omega, by omega, by omega⟩ Hn.out

set_option maxHeartbeats 4000000 in
theorem even_good (s : ByteArray) (hs : s.size ≤ maxLen) (mn b mx : Nat) (h1 : 1 ≤ mn) (h2 : mn ≤ 4096) (h3 : b ≤ 20) (h4 : mn ≤ mx) (h5 : mx ≤ 4096) (w : World) :
    Calls Try.prog 14 #[.string s, .int .i64 (mn : Int), .int .i64 (b : Int), .int .i64 (mx : Int)] w fun e w' => e = .returned (.bool true) ∧ Below w.heap.size w w' := by
  have CF := Lib.hid (fun W => few_any s 2000 (by decide) hs W)
  have hfs := few_size s 2000
  obtain ⟨t, ht⟩ : ∃ t, few s 2000 = t := ⟨_, rfl⟩
  rw [ht] at CF hfs
  have e1 : kErr (mn : Int) ((0 : Nat) : Int) (mx : Int) = 0 := by unfold kErr; rw [if_neg (by omega), if_neg (by omega)]
  have e2 : kErr (mn : Int) (b : Int) (mn : Int) = 0 := by unfold kErr; rw [if_neg (by omega), if_neg (by omega)]
  have ca := fun W => split_yes t (by omega) mn 0 mx (by decide) h5 e1 W
  simp only [show ((0 : Nat) : Int) = 0 from rfl] at ca
  have cb := fun W => split_yes t (by omega) mn b mn h3 h2 e2 W
  have k1 := even_split mn 0 mx h1 h4 (.inl rfl) t.data.toList
  have k2 := even_split mn b mn h1 (Nat.le_refl _) (.inr rfl) t.data.toList
  have hLL : csplit mn b mn t.data.toList = csplit mn 0 mx t.data.toList := k2.only (fun z i => rfl) k1
  rw [hLL] at cb
  have hcl := csplit_len mn 0 mx t.data.toList
  obtain ⟨L, HL⟩ : ∃ L, Hid (csplit mn 0 mx t.data.toList = L) := ⟨_, Lib.hid (Eq.refl _)⟩
  rw [HL.out] at ca cb k1 hcl
  obtain ⟨hev, hcnt⟩ := even_len h1 k1
  rw [show t.data.toList.length = t.size by simp] at hcl hcnt
  obtain ⟨N, HN⟩ : ∃ N, Hid (L.length = N) := ⟨_, Lib.hid (Eq.refl _)⟩
  have Hev := Lib.hid hev
  rw [HN.out] at hcl hcnt
  have CA := Lib.hid ca
  have CB := Lib.hid cb
  have hq : ((t.size : Int) + (mn : Int) - 1) / (mn : Int) = (N : Int) := by
    rw [hcnt, show (t.size : Int) + (mn : Int) - 1 = ((t.size + mn - 1 : Nat) : Int) by omega]
    rfl
  have hq2 : ((t.size : Int) + (mn : Int) - 1).tdiv (mn : Int) = (N : Int) := by
    rw [Int.tdiv_eq_ediv_of_nonneg (by omega)]; exact hq
  obtain ⟨u, hu⟩ : ∃ u : Int, (t.size : Int) + (mn : Int) - 1 = u := ⟨_, rfl⟩
  rw [hu] at hq hq2
  have hul : 0 ≤ u ∧ u ≤ 10000 := by omega
  have hNl : N ≤ 10000 := by omega
  have d0 : decide ((mn : Int) < 1) = false := by simp; omega
  have d1 : decide (4096 < (mn : Int)) = false := by simp; omega
  have d2 : decide ((b : Int) < 0) = false := by simp
  have d3 : decide (20 < (b : Int)) = false := by simp; omega
  have d4 : decide ((mx : Int) < (mn : Int)) = false := by simp; omega
  have d5 : decide (4096 < (mx : Int)) = false := by simp; omega
  have hmn0 : ((mn : Int) == 0) = false := by rw [beq_eq_false_iff_ne]; omega
  have hmn1 : ((mn : Int) == -1) = false := by rw [beq_eq_false_iff_ne]; omega
  clear ht e1 e2 ca cb k1 k2 hLL hev hcnt hcl
  go_enter Try.func14, Try.ntmps14
  go_wp2_with fail
  refine (CF.out _).mono ?_
  rintro e w1 ⟨rfl, rfl⟩
  go_wp2_with fail
  refine (CA.out _).mono ?_
  rintro e w2 ⟨v1, rfl, hO1, hb2⟩
  go_wp2_with fail
  refine (CB.out _).mono ?_
  rintro e w3 ⟨v2, rfl, hO2, hb3⟩
  have hO13 := hO1.below hb3 (Nat.le_refl _)
  have HB3 := Lib.hid (bthen hb2 hb3)
  clear hO1 hb2 hb3
  have CS := same_any _ _ v1 v2 L L (by rw [HN.out]; omega) w3 hO13 hO2
  obtain ⟨a, cap, rfl, hv⟩ := hO13.view
  rw [if_pos rfl] at CS
  rw [HN.out] at CS ⊢
  have Hv := Lib.hid hv
  clear hv hO13 hO2
  go_wp2_with fail
  refine CS.mono ?_
  rintro e w4 ⟨rfl, nq, rfl⟩
  have Hv4 : Hid (∀ (j : Nat) (hj : j < L.length), ∃ g, a = some ⟨g, 0, none⟩ ∧ (w3.drewN nq).cell? ⟨g, j, none⟩ = some (.string ⟨L[j].toArray⟩)) := Hv.out
  have HB4 := Lib.hid (below_drewN HB3.out nq)
  clear CS Hv HB3
  generalize w3.drewN nq = w4 at *
  go_wp2_with fail
  go_loop [13, 14, 84] (fun _ _ i => ∃ k : Nat, k ≤ N ∧ i = .int .i64 (k : Int)) (fun _ _ i => N - (intOf i).toNat)
  case atStart => exact ⟨0, by omega, rfl⟩
  case round =>
    obtain ⟨k, hk, rfl⟩ := hrel
    by_cases hlt : k < N
    · have hkl : k < L.length := by rw [HN.out]; exact hlt
      obtain ⟨g, rfl, hc⟩ := Hv4.out k hkl
      have hev := Hev.out k hkl
      rw [HN.out] at hev
      obtain ⟨x, Hx⟩ : ∃ x : ByteArray, Hid ((⟨L[k].toArray⟩ : ByteArray) = x) := ⟨_, Lib.hid (Eq.refl _)⟩
      have Hxl : Hid (x.data.toList = L[k]) := by show _ = _; rw [← Hx.out]
      rw [← Hxl.out, show x.data.toList.length = x.size by simp] at hev
      rw [Hx.out] at hc
      by_cases hlast : k + 1 < N
      · have hxs := hev hlast
        have hkd : decide ((k : Int) + 1 < (N : Int)) = true := by simp; omega
        have hne : ((x.size : Int) != (mn : Int)) = false := by simp [hxs]
        clear hev
        go_wp2_with fail
        go_round
        case rel => exact ⟨k + 1, by omega, by go_num⟩
        case measure => simp [intOf]; omega
      · have hkd : decide ((k : Int) + 1 < (N : Int)) = false := by simp; omega
        clear hev
        go_wp2_with fail
        go_round
        case rel => exact ⟨k + 1, by omega, by go_num⟩
        case measure => simp [intOf]; omega
    · obtain rfl : k = N := by omega
      go_wp2_with fail
      refine (awake10 _).mono ?_
      rintro e w5 ⟨rfl, hb5⟩
      go_wp2_with fail
      go_ret
      exact ⟨rfl, bthen HB4.out hb5⟩

theorem even_any (s : ByteArray) (hs : s.size ≤ maxLen) (mn b mx : Int) (w : World) :
    Calls Try.prog 14 #[.string s, .int .i64 mn, .int .i64 b, .int .i64 mx] w fun e w' => e = .returned (.bool true) ∧ Below w.heap.size w w' := by
  by_cases h : 1 ≤ mn ∧ mn ≤ 4096 ∧ 0 ≤ b ∧ b ≤ 20 ∧ mn ≤ mx ∧ mx ≤ 4096
  · obtain ⟨m, rfl⟩ : ∃ m : Nat, mn = m := ⟨mn.toNat, by omega⟩
    obtain ⟨b', rfl⟩ : ∃ m : Nat, b = m := ⟨b.toNat, by omega⟩
    obtain ⟨x, rfl⟩ : ∃ m : Nat, mx = m := ⟨mx.toNat, by omega⟩
    exact even_good s hs m b' x (by omega) (by omega) (by omega) (by omega) (by omega) w
  · exact even_bad s hs mn b mx h w
end Go.Proofs.Ytgjofpefglbjjaa
