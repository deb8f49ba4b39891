/- InflateCut. Printed by gen_law6b.py. Conditions: none. -/
import Derived.Test.YtjnglahjngiofaaLaw6a
namespace Go.Proofs.Ytjnglahjngiofaa
open Go.RowKit
set_option maxRecDepth 100000

set_option maxHeartbeats 16000000 in
theorem cut_any (s : ByteArray) (hs : s.size ≤ 140737488351232) (cut less : Int) (lo1 : -9223372036854775808 ≤ cut) (hi1 : cut ≤ 9223372036854775807) (lo2 : -9223372036854775808 ≤ less) (hi2 : less ≤ 9223372036854775807) (w : World) :
    Calls Try.prog 11 #[.string s, .int .i64 cut, .int .i64 less] w fun e w' => e = .returned (.bool true) ∧ Below w.heap.size w w' := by
  have CA := Lib.hid awake6_any
  have F2 := Lib.hid (fun W => few_any s 200 (by decide) (by unfold maxLen; omega) W)
  obtain ⟨s', Hs⟩ : ∃ x, Hid (few s 200 = x) := ⟨_, Lib.hid (Eq.refl _)⟩
  have ls : s'.size ≤ 200 := by rw [← Hs.out]; exact few_size _ _
  rw [Hs.out] at F2
  have C1 := Lib.hid (fun W => inflate_any s' (by omega) 0 4000 (Nat.zero_le _) (by decide) s' (extract_all s') W)
  clear hs
  go_enter Try.func11, Try.ntmps11
  go_wp2_with fail
  refine (F2.out _).mono ?_
  rintro e w1 ⟨rfl, rfl⟩
  go_wp2_with fail
  refine (C1.out _).mono ?_
  rintro e w1 ⟨hb1, ⟨e, he, hr, rfl⟩ | ⟨bs, p, z, hr, hp, rfl⟩⟩
  · have Hb1 := Lib.hid hb1
    have de : ((e : Int) == 0) = false := by simp; omega
    have de2 : ((e : Int) != 0) = true := by simp; omega
    clear hb1 hr F2 C1
    go_wp2_with fail
    refine (CA.out _).mono ?_
    rintro e w2 ⟨rfl, hb2⟩
    have Hb2 := Lib.hid (bthen Hb1.out hb2)
    clear hb2
    go_wp2_with fail
    go_ret
    exact ⟨rfl, Hb2.out⟩
  · have Hb1 := Lib.hid hb1
    obtain ⟨T, HT⟩ : ∃ x, Hid ((⟨(joinL [] bs).toArray⟩ : ByteArray) = x) := ⟨_, Lib.hid (Eq.refl _)⟩
    obtain ⟨k, Hk⟩ : ∃ x, Hid ((p + 7) / 8 = x) := ⟨_, Lib.hid (Eq.refl _)⟩
    have hks : k ≤ s'.size := by have := Hk.out; omega
    obtain ⟨o1, o2, o3, o4⟩ := infl_out hr
    have hTz : T.size = z := by
      rw [← HT.out]
      show (joinL [] bs).toArray.size = z
      rw [List.size_toArray, o4]
      rfl
    have hz4 : z ≤ 4000 := o3
    have hen : 8 * s'.size - (sg s' p z).n = p := by show 8 * s'.size - (8 * s'.size - p) = p; omega
    have CC : Hid (∀ c : Nat, c < k → ∀ W, Calls Try.prog 27 #[.string (s'.extract 0 c), .int .i64 0, .int .i64 4000] W fun r w' => r = .returned (.tuple #[.string ⟨#[]⟩, .int .i64 0, .int .i64 6]) ∧ Below W.heap.size W w') :=
      Lib.hid fun c hc W => inflate_is_err (q := 0) (most := 4000) (by rw [ByteArray.size_extract]; omega) (Nat.zero_le _) (by decide) (extract_all _) (infl_cut hr c (by omega) (by show 8 * s'.size - p < _; have := Hk.out; omega)) W
    have C3 : Hid (∀ W, Calls Try.prog 27 #[.string s', .int .i64 0, .int .i64 (z : Int)] W fun r w' => r = .returned (.tuple #[.string T, .int .i64 (k : Int), .int .i64 0]) ∧ Below W.heap.size W w') := by
      rcases infl_less (most' := z) hr with ⟨_, h⟩ | ⟨h, _⟩
      · have := fun W => inflate_is_ok (s := s') (q := 0) (most := z) (by omega) (Nat.zero_le _) (by omega) (extract_all _) h W
        rw [hen, HT.out, Hk.out] at this
        exact Lib.hid this
      · exact absurd h (Nat.lt_irrefl z)
    have CL : Hid (∀ m : Nat, m < z → ∀ W, Calls Try.prog 27 #[.string s', .int .i64 0, .int .i64 (m : Int)] W fun r w' => r = .returned (.tuple #[.string ⟨#[]⟩, .int .i64 0, .int .i64 2]) ∧ Below W.heap.size W w') := by
      refine Lib.hid fun m hm W => ?_
      rcases infl_less (most' := m) hr with ⟨h, _⟩ | ⟨_, h⟩
      · exact absurd (show z ≤ m from h) (by omega)
      · exact inflate_is_err (q := 0) (by omega) (Nat.zero_le _) (by omega) (extract_all _) h W
    rw [HT.out, Hk.out]
    clear hb1 hr F2 C1 o1 o2 o3 o4 hen hp
    by_cases c0 : cut < 0
    · have dc0 : decide (0 ≤ cut) = false := by rw [decide_eq_false_iff_not]; omega
      have Hbx := Hb1
      clear c0
      go_wp2_with fail
      refine (C3.out _).mono ?_
      rintro e w3 ⟨rfl, hb3⟩
      have Hb3 := Lib.hid (bthen Hbx.out hb3)
      clear hb3
      by_cases l0 : less < 0
      · have dl0 : decide (0 ≤ less) = false := by rw [decide_eq_false_iff_not]; omega
        clear l0
        go_wp2_with fail
        refine (CA.out _).mono ?_
        rintro e w5 ⟨rfl, hb5⟩
        have Hb5 := Lib.hid (bthen Hb3.out hb5)
        clear hb5
        go_wp2_with fail
        go_ret
        exact ⟨rfl, Hb5.out⟩
      · have dl0 : decide (0 ≤ less) = true := by rw [decide_eq_true_eq]; omega
        by_cases l1 : less < (z : Int)
        · obtain ⟨m, rfl⟩ : ∃ m : Nat, less = (m : Int) := ⟨less.toNat, by omega⟩
          have dl1 : decide ((m : Int) < (z : Int)) = true := by rw [decide_eq_true_eq]; omega
          have dl1b : decide (m < z) = true := by rw [decide_eq_true_eq]; omega
          have C4 := Lib.hid (CL.out m (by omega))
          clear l0 l1
          go_wp2_with fail
          refine (C4.out _).mono ?_
          rintro e w4 ⟨rfl, hb4⟩
          have Hb4 := Lib.hid (bthen Hb3.out hb4)
          clear hb4
          go_wp2_with fail
          refine (CA.out _).mono ?_
          rintro e w5 ⟨rfl, hb5⟩
          have Hb5 := Lib.hid (bthen Hb4.out hb5)
          clear hb5
          go_wp2_with fail
          go_ret
          exact ⟨rfl, Hb5.out⟩
        · have dl1 : decide (less < (z : Int)) = false := by rw [decide_eq_false_iff_not]; exact l1
          clear l0 l1
          go_wp2_with fail
          refine (CA.out _).mono ?_
          rintro e w5 ⟨rfl, hb5⟩
          have Hb5 := Lib.hid (bthen Hb3.out hb5)
          clear hb5
          go_wp2_with fail
          go_ret
          exact ⟨rfl, Hb5.out⟩
    · have dc0 : decide (0 ≤ cut) = true := by rw [decide_eq_true_eq]; omega
      by_cases c1 : cut < (k : Int)
      · obtain ⟨c, rfl⟩ : ∃ c : Nat, cut = (c : Int) := ⟨cut.toNat, by omega⟩
        have dc1 : decide ((c : Int) < (k : Int)) = true := by rw [decide_eq_true_eq]; omega
        have dc1b : decide (c < k) = true := by rw [decide_eq_true_eq]; omega
        have hcs : c ≤ s'.size := by omega
        have hcsI : (c : Int) ≤ (s'.size : Int) := by omega
        have C5 := Lib.hid (CC.out c (by omega))
        clear c0 c1
        go_wp2_with fail
        refine (C5.out _).mono ?_
        rintro e w2 ⟨rfl, hb2⟩
        have Hbx := Lib.hid (bthen Hb1.out hb2)
        clear hb2
        go_wp2_with fail
        refine (C3.out _).mono ?_
        rintro e w3 ⟨rfl, hb3⟩
        have Hb3 := Lib.hid (bthen Hbx.out hb3)
        clear hb3
        by_cases l0 : less < 0
        · have dl0 : decide (0 ≤ less) = false := by rw [decide_eq_false_iff_not]; omega
          clear l0
          go_wp2_with fail
          refine (CA.out _).mono ?_
          rintro e w5 ⟨rfl, hb5⟩
          have Hb5 := Lib.hid (bthen Hb3.out hb5)
          clear hb5
          go_wp2_with fail
          go_ret
          exact ⟨rfl, Hb5.out⟩
        · have dl0 : decide (0 ≤ less) = true := by rw [decide_eq_true_eq]; omega
          by_cases l1 : less < (z : Int)
          · obtain ⟨m, rfl⟩ : ∃ m : Nat, less = (m : Int) := ⟨less.toNat, by omega⟩
            have dl1 : decide ((m : Int) < (z : Int)) = true := by rw [decide_eq_true_eq]; omega
            have dl1b : decide (m < z) = true := by rw [decide_eq_true_eq]; omega
            have C4 := Lib.hid (CL.out m (by omega))
            clear l0 l1
            go_wp2_with fail
            refine (C4.out _).mono ?_
            rintro e w4 ⟨rfl, hb4⟩
            have Hb4 := Lib.hid (bthen Hb3.out hb4)
            clear hb4
            go_wp2_with fail
            refine (CA.out _).mono ?_
            rintro e w5 ⟨rfl, hb5⟩
            have Hb5 := Lib.hid (bthen Hb4.out hb5)
            clear hb5
            go_wp2_with fail
            go_ret
            exact ⟨rfl, Hb5.out⟩
          · have dl1 : decide (less < (z : Int)) = false := by rw [decide_eq_false_iff_not]; exact l1
            clear l0 l1
            go_wp2_with fail
            refine (CA.out _).mono ?_
            rintro e w5 ⟨rfl, hb5⟩
            have Hb5 := Lib.hid (bthen Hb3.out hb5)
            clear hb5
            go_wp2_with fail
            go_ret
            exact ⟨rfl, Hb5.out⟩
      · have dc1 : decide (cut < (k : Int)) = false := by rw [decide_eq_false_iff_not]; exact c1
        have Hbx := Hb1
        clear c0 c1
        go_wp2_with fail
        refine (C3.out _).mono ?_
        rintro e w3 ⟨rfl, hb3⟩
        have Hb3 := Lib.hid (bthen Hbx.out hb3)
        clear hb3
        by_cases l0 : less < 0
        · have dl0 : decide (0 ≤ less) = false := by rw [decide_eq_false_iff_not]; omega
          clear l0
          go_wp2_with fail
          refine (CA.out _).mono ?_
          rintro e w5 ⟨rfl, hb5⟩
          have Hb5 := Lib.hid (bthen Hb3.out hb5)
          clear hb5
          go_wp2_with fail
          go_ret
          exact ⟨rfl, Hb5.out⟩
        · have dl0 : decide (0 ≤ less) = true := by rw [decide_eq_true_eq]; omega
          by_cases l1 : less < (z : Int)
          · obtain ⟨m, rfl⟩ : ∃ m : Nat, less = (m : Int) := ⟨less.toNat, by omega⟩
            have dl1 : decide ((m : Int) < (z : Int)) = true := by rw [decide_eq_true_eq]; omega
            have dl1b : decide (m < z) = true := by rw [decide_eq_true_eq]; omega
            have C4 := Lib.hid (CL.out m (by omega))
            clear l0 l1
            go_wp2_with fail
            refine (C4.out _).mono ?_
            rintro e w4 ⟨rfl, hb4⟩
            have Hb4 := Lib.hid (bthen Hb3.out hb4)
            clear hb4
            go_wp2_with fail
            refine (CA.out _).mono ?_
            rintro e w5 ⟨rfl, hb5⟩
            have Hb5 := Lib.hid (bthen Hb4.out hb5)
            clear hb5
            go_wp2_with fail
            go_ret
            exact ⟨rfl, Hb5.out⟩
          · have dl1 : decide (less < (z : Int)) = false := by rw [decide_eq_false_iff_not]; exact l1
            clear l0 l1
            go_wp2_with fail
            refine (CA.out _).mono ?_
            rintro e w5 ⟨rfl, hb5⟩
            have Hb5 := Lib.hid (bthen Hb3.out hb5)
            clear hb5
            go_wp2_with fail
            go_ret
            exact ⟨rfl, Hb5.out⟩
end Go.Proofs.Ytjnglahjngiofaa
