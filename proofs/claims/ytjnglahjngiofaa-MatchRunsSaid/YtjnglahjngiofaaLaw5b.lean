/- MatchTokens. Conditions: none. -/
import Derived.Test.YtjnglahjngiofaaTokens
import Derived.Test.YtjnglahjngiofaaTokT
import Derived.Test.YtjnglahjngiofaaTokR
import Derived.Test.YtjnglahjngiofaaFew
namespace Go.Proofs.Ytjnglahjngiofaa
open Go.RowKit
set_option maxRecDepth 100000

theorem tokens_bad (s : ByteArray) (lv : Int) (h : lv < 0 ∨ 9 < lv) (w : World) : Calls Try.prog 24 #[.string s, .int .i64 lv] w fun e w' => e = .returned (.tuple #[.slice none 0 0, .int .i64 1]) ∧ w = w' := by
  by_cases h0 : lv < 0
  · have d0 : decide (lv < 0) = true := by rw [decide_eq_true_eq]; exact h0
    clear h h0
    go_enter Try.func24, Try.ntmps24
    go_wp2_with fail
    go_ret2
    exact ⟨rfl, rfl⟩
  · have d0 : decide (lv < 0) = false := by rw [decide_eq_false_iff_not]; exact h0
    have d1 : decide (9 < lv) = true := by rw [decide_eq_true_eq]; omega
    clear h h0
    go_enter Try.func24, Try.ntmps24
    go_wp2_with fail
    go_ret2
    exact ⟨rfl, rfl⟩
theorem mtokens_bad (s0 : ByteArray) (hs0 : s0.size ≤ maxLen) (lv : Int) (h : lv < 0 ∨ 9 < lv) (w : World) : Calls Try.prog 5 #[.string s0, .int .i64 lv] w fun e w' => e = .returned (.bool true) ∧ Below w.heap.size w w' := by
  have CF := Lib.hid (few_any s0 3000 (by decide) hs0 w)
  have CT := Lib.hid (fun W => tokens_bad (few s0 3000) lv h W)
  have CA := Lib.hid awake5_any
  obtain ⟨s, Hs⟩ : ∃ R, Hid (few s0 3000 = R) := ⟨_, Lib.hid (Eq.refl _)⟩
  rw [Hs.out] at CF CT
  by_cases h0 : lv < 0
  · have d0 : decide (lv < 0) = true := by rw [decide_eq_true_eq]; exact h0
    clear h h0
    go_enter Try.func5, Try.ntmps5
    go_wp2_with fail
    refine CF.out.mono ?_
    rintro e w1 ⟨rfl, rfl⟩
    go_wp2_with fail
    refine (CT.out _).mono ?_
    rintro e w1 ⟨rfl, rfl⟩
    go_wp2_with fail
    refine (CA.out _).mono ?_
    rintro e w2 ⟨rfl, hb⟩
    go_wp2_with fail
    go_ret
    exact ⟨rfl, hb⟩
  · have d0 : decide (lv < 0) = false := by rw [decide_eq_false_iff_not]; exact h0
    have d1 : decide (9 < lv) = true := by rw [decide_eq_true_eq]; omega
    clear h h0
    go_enter Try.func5, Try.ntmps5
    go_wp2_with fail
    refine CF.out.mono ?_
    rintro e w1 ⟨rfl, rfl⟩
    go_wp2_with fail
    refine (CT.out _).mono ?_
    rintro e w1 ⟨rfl, rfl⟩
    go_wp2_with fail
    refine (CA.out _).mono ?_
    rintro e w2 ⟨rfl, hb⟩
    go_wp2_with fail
    go_ret
    exact ⟨rfl, hb⟩

set_option maxHeartbeats 8000000 in
theorem mtokens_ok (s0 : ByteArray) (hs0 : s0.size ≤ maxLen) (lv : Nat) (hlv : lv ≤ 9) (w : World) : Calls Try.prog 5 #[.string s0, .int .i64 (lv : Int)] w fun e w' => e = .returned (.bool true) ∧ Below w.heap.size w w' := by
  have CF := Lib.hid (few_any s0 3000 (by decide) hs0 w)
  have hsz := few_size s0 3000
  have CA := Lib.hid awake5_any
  obtain ⟨s, Hs⟩ : ∃ R, Hid (few s0 3000 = R) := ⟨_, Lib.hid (Eq.refl _)⟩
  rw [Hs.out] at CF hsz
  have CT := Lib.hid (tokens_any s lv hlv (by omega) w)
  have hexp := tokF_exp s lv s.size 0 (by omega) (by omega)
  have hlen := tokF_len s lv s.size 0
  have hzero : lv = 0 → ∀ t ∈ tokF s lv s.size 0, t.l = 0 := fun h => by subst h; exact tokF_zero s s.size 0
  obtain ⟨S, HS⟩ : ∃ R, Hid (tokF s lv s.size 0 = R) := ⟨_, Lib.hid (Eq.refl _)⟩
  rw [HS.out] at CT hexp hlen hzero
  have hexp0 : texp (s.size : Int) [] S = (s.data.toList, 0) := hexp
  have Hexp := Lib.hid hexp0
  have Hzero := Lib.hid hzero
  have d0 : decide ((lv : Int) < 0) = false := by rw [decide_eq_false_iff_not]; omega
  have d1 : decide ((9 : Int) < (lv : Int)) = false := by rw [decide_eq_false_iff_not]; omega
  have hM3 : S.length ≤ 3000 := by omega
  have hMs : S.length ≤ s.size := by omega
  clear hexp hexp0 hzero hlen hs0
  go_enter Try.func5, Try.ntmps5
  go_wp2_with fail
  refine CF.out.mono ?_
  rintro e w1 ⟨rfl, rfl⟩
  go_wp2_with fail
  refine CT.out.mono ?_
  rintro e w2 ⟨v, rfl, hO, hb⟩
  obtain ⟨a, cap, rfl, hR⟩ := hO.view
  have HR := Lib.hid hR
  have HB2 := Lib.hid hb
  have hbn := (Below.refl w2.heap.size w2).alloc (Nat.le_refl _) (.cells #[] 36)
  have hrn := World.ownsRow_made (base := w2.heap.size) (e := 36) (size := 3) w2 #[] 0 (Nat.le_refl _) (Nat.zero_le _) rfl
  have HO0 : Hid (OwnK 36 (w2.alloc (.cells #[] 36)) w2.heap.size (.slice (some ⟨w2.heap.size, 0, none⟩) 0 0) (S.take 0)) := hrn
  have HB0 := Lib.hid hbn
  obtain ⟨M, HM⟩ : ∃ R, Hid (S.length = R) := ⟨_, Lib.hid (Eq.refl _)⟩
  rw [HM.out] at hM3 hMs ⊢
  clear hO hR hb hbn hrn CF CT
  go_wp2_with fail
  obtain ⟨w3, HW3⟩ : ∃ W, Hid (w2.alloc (.cells #[] 36) = W) := ⟨_, Lib.hid (Eq.refl _)⟩
  rw [HW3.out] at HO0 HB0 ⊢
  clear HW3
  go_loopw [7, 8, 40] (fun v_ r_ i_ wr => ∃ j rp : Nat, j ≤ M ∧ rp ≤ j ∧ i_ = .int .i64 (j : Int) ∧ r_ = .int .i64 (rp : Int) ∧ Hid (OwnK 36 wr w2.heap.size v_ (S.take j)) ∧ Hid (Below w2.heap.size w2 wr) ∧ Hid (lv = 0 → rp = 0)) (fun _ _ i _ => M - (intOf i).toNat)
  case atStart => exact ⟨0, 0, by omega, by omega, rfl, rfl, HO0, HB0, fun _ => rfl⟩
  case round =>
    clear HO0 HB0
    obtain ⟨j, rp, hj, hrp, rfl, rfl, HO, HB, HZ⟩ := hrel
    by_cases hlt : j < M
    · have dj : decide ((j : Int) < (M : Int)) = true := by rw [decide_eq_true_eq]; omega
      have hlI : (j : Int) < (M : Int) := by omega
      have hjS : j < S.length := by rw [HM.out]; exact hlt
      obtain ⟨b, off, rfl, _, c0, c1, c2⟩ := (HR.out.below HB.out (Nat.le_refl _)).get j hjS
      have htk : S.take (j + 1) = S.take j ++ [tk S j] := by rw [List.take_succ_eq_append_getElem hjS, tk_get hjS]
      have hmem : tk S j ∈ S := by rw [tk_get hjS]; exact List.getElem_mem _
      obtain ⟨⟨tb, tl, td⟩, Ht⟩ : ∃ R, Hid (tk S j = R) := ⟨_, Lib.hid (Eq.refl _)⟩
      rw [Ht.out] at c0 c1 c2 htk hmem
      dsimp only at c0 c1 c2
      have hz2 : lv = 0 → tl = 0 := fun h => Hzero.out h _ hmem
      obtain ⟨cb, Hcb⟩ : ∃ R : Int, Hid ((tb.toNat : Int) = R) := ⟨_, Lib.hid (Eq.refl _)⟩
      have hone0 := tok_one ⟨tb, tl, td⟩
      simp only at hone0
      rw [Hcb.out] at c0 hone0
      have hal := (Below.refl wr.heap.size wr).alloc (Nat.le_refl _) (.cells #[.int .u8 cb, .int .i64 tl, .int .i64 td] 35)
      have hBA := Blk.new wr 35 #[.int .u8 cb, .int .i64 tl, .int .i64 td]
      have hos := HO.out.below hal (Nat.le_refl _)
      have hB4 := HB.out.trans (hal.mono HB.out.size)
      have hbsw : w2.heap.size ≤ (wr.alloc (.cells #[.int .u8 cb, .int .i64 tl, .int .i64 td] 35)).heap.size := hB4.size
      have hlen : (S.take j).length = j := by rw [List.length_take]; omega
      have Htk := Lib.hid htk
      have HBA := Lib.hid hBA
      have HB4 := Lib.hid hB4
      have HZ2 := Lib.hid hz2
      clear htk hmem hBA hB4 hal hz2
      have Hsz2 : Hid (wr.heap.size + 1 = (wr.alloc (.cells #[.int .u8 cb, .int .i64 tl, .int .i64 td] 35)).heap.size) := by show _ = _; simp
      have hneA := Lib.hid (row_blk hos HBA.out (by decide))
      by_cases hl0 : 0 < tl
      · have dl : decide (0 < tl) = true := by rw [decide_eq_true_eq]; exact hl0
        go_wp2_with (first
          | (at_builtin; go_must (refine wpList_append_elem (wr.alloc (.cells #[.int .u8 cb, .int .i64 tl, .int .i64 td] 35)) rfl (.tmp 44) (.tmp 46) rfl Try.underlying33 info_rtok rfl (by decide) w2.heap.size _ (S.take j).length (kcells3 (S.take j)) [.int .u8 cb, .int .i64 tl, .int .i64 td] hos rfl hone0 rfl rfl Hsz2.out ?_ ?_ hbsw ?_; (rw [hlen]; unfold maxLen; omega); (rw [hlen]; omega); intro v8 w8 hown8 hg8; have HO8 : Hid (OwnK 36 w8 w2.heap.size v8 (S.take (j + 1))) := (by show OwnK _ _ _ _ _; rw [Htk.out]; rw [← Hcb.out] at hown8; exact OwnK.snoc (t := ⟨tb, tl, td⟩) hown8); have HB8 := Lib.hid (HB4.out.trans (below_grown hos hg8 hbsw)); have hA8 := (HBA.out.grown hg8 (fun e => by rcases hneA.out with h | h; (rw [h] at e; cases e); exact h e.symm)).cell 1; simp at hA8; clear hown8 hg8))
          | fail)
        go_roundw
        case rel => exact ⟨j + 1, rp + 1, by omega, by omega, by go_num, by go_num, HO8, HB8, fun h => by have := HZ2.out h; omega⟩
        case measure => simp [intOf]; omega
      · have dl : decide (0 < tl) = false := by rw [decide_eq_false_iff_not]; exact hl0
        go_wp2_with (first
          | (at_builtin; go_must (refine wpList_append_elem (wr.alloc (.cells #[.int .u8 cb, .int .i64 tl, .int .i64 td] 35)) rfl (.tmp 44) (.tmp 46) rfl Try.underlying33 info_rtok rfl (by decide) w2.heap.size _ (S.take j).length (kcells3 (S.take j)) [.int .u8 cb, .int .i64 tl, .int .i64 td] hos rfl hone0 rfl rfl Hsz2.out ?_ ?_ hbsw ?_; (rw [hlen]; unfold maxLen; omega); (rw [hlen]; omega); intro v8 w8 hown8 hg8; have HO8 : Hid (OwnK 36 w8 w2.heap.size v8 (S.take (j + 1))) := (by show OwnK _ _ _ _ _; rw [Htk.out]; rw [← Hcb.out] at hown8; exact OwnK.snoc (t := ⟨tb, tl, td⟩) hown8); have HB8 := Lib.hid (HB4.out.trans (below_grown hos hg8 hbsw)); have hA8 := (HBA.out.grown hg8 (fun e => by rcases hneA.out with h | h; (rw [h] at e; cases e); exact h e.symm)).cell 1; simp at hA8; clear hown8 hg8))
          | fail)
        go_roundw
        case rel => exact ⟨j + 1, rp, by omega, by omega, by go_num, rfl, HO8, HB8, HZ⟩
        case measure => simp [intOf]; omega
    · obtain rfl : j = M := by omega
      have dj : decide ((j : Int) < (j : Int)) = false := by rw [decide_eq_false_iff_not]; omega
      have hfull : S.take j = S := by rw [List.take_of_length_le (by rw [HM.out]; exact Nat.le_refl _)]
      have hO := HO.out
      rw [hfull] at hO
      obtain ⟨a3, cap3, rfl, hR3⟩ := hO.view
      have CE0 := rexpand_any S (by rw [HM.out]; omega) a3 cap3 (s.size : Int) (by omega) wr hR3
      rw [Hexp.out] at CE0
      have e1 : expV (s.data.toList, 0) = .tuple #[.string s, .int .i64 0] := rfl
      rw [e1, HM.out] at CE0
      have CE := Lib.hid CE0
      rw [HM.out]
      have HBw := Lib.hid (HB2.out.trans (HB.out.mono HB2.out.size))
      have dls : decide ((j : Int) ≤ (s.size : Int)) = true := by rw [decide_eq_true_eq]; omega
      have djs : decide (j ≤ s.size) = true := by rw [decide_eq_true_eq]; omega
      clear hO hR3 CE0 hfull e1
      go_wp2_with fail
      refine CE.out.mono ?_
      rintro e w4 ⟨rfl, hb4⟩
      have HB4 := Lib.hid (bthen HBw.out hb4)
      clear hb4 CE
      go_wp2_with fail
      refine (CA.out _).mono ?_
      rintro e w5 ⟨rfl, hb5⟩
      have hB := bthen HB4.out hb5
      have HBf := Lib.hid hB
      clear hb5 hB
      by_cases hl0 : lv = 0
      · obtain rfl : rp = 0 := HZ.out hl0
        have dl : decide ((0 : Int) < (lv : Int)) = false := by rw [decide_eq_false_iff_not]; omega
        have dl2 : decide (0 < lv) = false := by rw [decide_eq_false_iff_not]; omega
        go_wp2_with fail
        go_ret
        exact ⟨rfl, HBf.out⟩
      · have dl : decide ((0 : Int) < (lv : Int)) = true := by rw [decide_eq_true_eq]; omega
        have dl2 : decide (0 < lv) = true := by rw [decide_eq_true_eq]; omega
        go_wp2_with fail
        go_ret
        exact ⟨rfl, HBf.out⟩
theorem mtokens_any (s0 : ByteArray) (hs0 : s0.size ≤ maxLen) (lv : Int) (w : World) : Calls Try.prog 5 #[.string s0, .int .i64 lv] w fun e w' => e = .returned (.bool true) ∧ Below w.heap.size w w' := by
  by_cases h : lv < 0 ∨ 9 < lv
  · exact mtokens_bad s0 hs0 lv h w
  · obtain ⟨k, rfl⟩ : ∃ k : Nat, lv = (k : Int) := ⟨lv.toNat, by omega⟩
    exact mtokens_ok s0 hs0 k (by omega) w
end Go.Proofs.Ytjnglahjngiofaa
