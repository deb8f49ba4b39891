/- The document's Expand. Conditions: at most a million tokens. -/
import Derived.Test.YtjnglahjngiofaaTok
namespace Go.Proofs.Ytjnglahjngiofaa
open Go.RowKit
set_option maxRecDepth 100000

theorem toL_append (s t : ByteArray) : (s ++ t).data.toList = s.data.toList ++ t.data.toList := by rw [ByteArray.data_append, Array.toList_append]
theorem extract_one (s : ByteArray) (q : Nat) (hq : q < s.size) : (s.extract q (q + 1)).data.toList = [s.data.toList.getD q 0] := by
  rw [ByteArray.data_extract, Array.toList_extract, List.extract_eq_take_drop, show q + 1 - q = 1 by omega]
  have hl : q < s.data.toList.length := by simpa using hq
  rw [List.drop_eq_getElem_cons hl, List.getD_eq_getElem?_getD, List.getElem?_eq_getElem hl]
  simp

set_option maxHeartbeats 8000000 in
theorem rexpand_any (S : List Tok) (hS : S.length ≤ 1000000) (a : Option Addr) (cap : Nat) (most : Int) (hm : -9223372036854775808 ≤ most ∧ most ≤ 1000000) (w : World) (hr : TkRow w a S) :
    Calls Try.prog 21 #[.slice a S.length cap, .int .i64 most] w fun e w' => e = .returned (expV (texp most [] S)) ∧ Below w.heap.size w w' := by
  have Hr := Lib.hid hr
  obtain ⟨R, HR⟩ : ∃ R, Hid (texp most [] S = R) := ⟨_, Lib.hid (Eq.refl _)⟩
  obtain ⟨N, HN⟩ : ∃ N, Hid (S.length = N) := ⟨_, Lib.hid (Eq.refl _)⟩
  rw [HR.out]
  rw [HN.out] at hS ⊢
  clear hr
  have HB0 := Lib.hid (Below.refl w.heap.size w)
  go_enter Try.func21, Try.ntmps21
  go_wp2_with fail
  go_loopw [6, 13] (fun vo i wr => ∃ (k : Nat) (T : ByteArray), k ≤ N ∧ i = .int .i64 (k : Int) ∧ vo = .string T ∧ (T.size = 0 ∨ (T.size : Int) ≤ most) ∧ Hid (texp most T.data.toList (S.drop k) = R) ∧ Hid (Below w.heap.size w wr)) (fun _ i _ => N - (intOf i).toNat)
  case atStart => exact ⟨0, ⟨#[]⟩, by omega, rfl, rfl, .inl rfl, HR, HB0⟩
  case round =>
    clear HB0 HR
    obtain ⟨k, T, hk, rfl, rfl, hol, HR, HB⟩ := hrel
    by_cases hlt : k < N
    · have hkl : k < S.length := by rw [HN.out]; exact hlt
      obtain ⟨b, off, rfl, hbl, c0, c1, c2⟩ := (Hr.out.below HB.out (Nat.le_refl _)).get k hkl
      have Hd := Lib.hid (drop_tk hkl)
      obtain ⟨t, Ht⟩ : ∃ t, Hid (tk S k = t) := ⟨_, Lib.hid (Eq.refl _)⟩
      rw [Ht.out] at c0 c1 c2 Hd
      rw [Hd.out] at HR
      obtain ⟨tb, tl, td⟩ := t
      simp only at c0 c1 c2
      have htb : tb.toNat < 256 := UInt8.toNat_lt tb
      have hTl : T.data.toList.length = T.size := by simp
      have HE : ∀ e, terr most T.size ⟨tb, tl, td⟩ = e → e ≠ 0 → R = ([], e) := fun e h1 h2 => by
        rw [← HR.out]; exact texp_stop (by rw [hTl]; exact h1) h2
      have HG : terr most T.size ⟨tb, tl, td⟩ = 0 → texp most (tout T.data.toList ⟨tb, tl, td⟩) (S.drop (k + 1)) = R := fun h => by
        rw [← HR.out]; exact (texp_step (by rw [hTl]; exact h)).symm
      have hE := Lib.hid HE
      have hG := Lib.hid HG
      clear HE HG
      go_upto_region 5 with (fail)
      have hB4 := Blk.new wr 36 #[.int .u8 (tb.toNat : Int), .int .i64 tl, .int .i64 td]
      have HB4 := Lib.hid (HB.out.alloc HB.out.size (.cells #[.int .u8 (tb.toNat : Int), .int .i64 tl, .int .i64 td] 36))
      obtain ⟨g4, Hg4⟩ : ∃ g, Hid (wr.heap.size = g) := ⟨_, Lib.hid (Eq.refl _)⟩
      rw [Hg4.out] at hB4 ⊢
      generalize wr.alloc (.cells #[.int .u8 (tb.toNat : Int), .int .i64 tl, .int .i64 td] 36) = w4 at *
      clear c0 c1 c2 HB
      have g0 := hB4.cell 0
      have g1 := hB4.cell 1
      have g2 := hB4.cell 2
      have hgl := hB4.lt
      simp at g0 g1 g2
      have HBb : Hid (Blk w4 g4 36 #[.int .u8 (tb.toNat : Int), .int .i64 tl, .int .i64 td]) := hB4
      clear hB4 hTl
      by_cases hz : tl = 0 ∧ td = 0
      · obtain ⟨rfl, rfl⟩ := hz
        by_cases hmo : most ≤ (T.size : Int)
        · have dm : decide (most ≤ (T.size : Int)) = true := by simpa using hmo
          have HRe : Hid (R = ([], 2)) := hE.out 2 (by unfold terr; simp [hmo]) (by decide)
          go_wp2_with fail
          go_ret2
          exact ⟨by rw [HRe.out]; rfl, HB4.out⟩
        · have dm : decide (most ≤ (T.size : Int)) = false := by simpa using hmo
          have HRn := Lib.hid (hG.out (by unfold terr; simp [hmo]))
          have hcv := run_string_one w4 (tb.toNat : Int)
          have HB5 := Lib.hid (HB4.out.alloc HB4.out.size (.cells #[.int .u8 (tb.toNat : Int)] 5))
          have hov : ¬ 9223372036854775807 < T.size + 1 := by omega
          go_wp2_with fail
          go_roundw
          case rel =>
            refine ⟨k + 1, _, by omega, by go_num, rfl, .inr ?_, ?_, HB5⟩
            · rw [ByteArray.size_append]; show ((T.size + 1 : Nat) : Int) ≤ most; omega
            · show texp _ _ _ = _
              rw [toL_append]
              exact HRn.out
          case measure => simp [intOf]; omega
      · by_cases hbad : tb ≠ 0 ∨ tl < 3 ∨ 258 < tl ∨ td < 1 ∨ 32768 < td ∨ (T.size : Int) < td
        · have HRe : Hid (R = ([], 4)) := hE.out 4 (by
            unfold terr
            by_cases hl0 : tl = 0
            · rw [if_pos hl0, if_pos (fun e => hz ⟨hl0, e⟩)]
            · rw [if_neg hl0, if_pos hbad]) (by decide)
          have Hbad := Lib.hid hbad
          have Hz := Lib.hid hz
          clear hbad hE hG
          by_cases hl0 : tl = 0
          · subst hl0
            have htd : (td == 0) = false := by simp; exact fun e => Hz.out ⟨rfl, e⟩
            clear hz
            by_cases h1 : tb.toNat = 0
            · have d1 : ((tb.toNat : Int) != 0) = false := by simp [h1]
              clear h1
              go_wp2_with fail
              go_ret2
              exact ⟨by rw [HRe.out]; rfl, HB4.out⟩
            · have d1 : ((tb.toNat : Int) != 0) = true := by rw [bne_iff_ne]; omega
              clear h1
              go_wp2_with fail
              go_ret2
              exact ⟨by rw [HRe.out]; rfl, HB4.out⟩
          have dl0 : (tl == 0) = false := by simpa using hl0
          clear hz
          by_cases h1 : tb.toNat = 0
          · have d1 : ((tb.toNat : Int) != 0) = false := by simp [h1]
            have htb0 : tb = 0 := by apply UInt8.toNat_inj.1; simpa using h1
            by_cases h2 : tl < 3
            · have d2 : decide (tl < 3) = true := by simpa using h2
              clear h1 htb0
              go_wp2_with fail
              go_ret2
              exact ⟨by rw [HRe.out]; rfl, HB4.out⟩
            have d2 : decide (tl < 3) = false := by simpa using h2
            by_cases h3 : 258 < tl
            · have d3 : decide (258 < tl) = true := by simpa using h3
              clear h1 htb0
              go_wp2_with fail
              go_ret2
              exact ⟨by rw [HRe.out]; rfl, HB4.out⟩
            have d3 : decide (258 < tl) = false := by simpa using h3
            by_cases h4 : td < 1
            · have d4 : decide (td < 1) = true := by simpa using h4
              clear h1 htb0
              go_wp2_with fail
              go_ret2
              exact ⟨by rw [HRe.out]; rfl, HB4.out⟩
            have d4 : decide (td < 1) = false := by simpa using h4
            by_cases h5 : 32768 < td
            · have d5 : decide (32768 < td) = true := by simpa using h5
              clear h1 htb0
              go_wp2_with fail
              go_ret2
              exact ⟨by rw [HRe.out]; rfl, HB4.out⟩
            have d5 : decide (32768 < td) = false := by simpa using h5
            have h6 : (T.size : Int) < td := by
              rcases Hbad.out with h | h | h | h | h | h
              · exact absurd htb0 h
              · omega
              · omega
              · omega
              · omega
              · exact h
            have d6 : decide ((T.size : Int) < td) = true := by simpa using h6
            clear h1 htb0
            go_wp2_with fail
            go_ret2
            exact ⟨by rw [HRe.out]; rfl, HB4.out⟩
          · have d1 : ((tb.toNat : Int) != 0) = true := by rw [bne_iff_ne]; omega
            clear h1
            go_wp2_with fail
            go_ret2
            exact ⟨by rw [HRe.out]; rfl, HB4.out⟩
        · have hgd : tb = 0 ∧ 3 ≤ tl ∧ tl ≤ 258 ∧ 1 ≤ td ∧ td ≤ 32768 ∧ td ≤ (T.size : Int) := by
            refine ⟨?_, by omega, by omega, by omega, by omega, by omega⟩
            by_cases e : tb = 0
            · exact e
            · exact absurd (.inl e) hbad
          obtain ⟨rfl, h2, h3, h4, h5, h6⟩ := hgd
          have hl0 : tl ≠ 0 := by omega
          have dl0 : (tl == 0) = false := by simpa using hl0
          have d1 : (((0 : UInt8).toNat : Int) != 0) = false := rfl
          have d2 : decide (tl < 3) = false := by simp; omega
          have d3 : decide (258 < tl) = false := by simp; omega
          have d4 : decide (td < 1) = false := by simp; omega
          have d5 : decide (32768 < td) = false := by simp; omega
          have d6 : decide ((T.size : Int) < td) = false := by simp; omega
          have hol2 : (T.size : Int) ≤ most := by rcases hol with h | h <;> omega
          have Hbad := Lib.hid hbad
          clear hbad hz
          by_cases h7 : most < (T.size : Int) + tl
          · have d7 : decide (most < (T.size : Int) + tl) = true := by simpa using h7
            have HRe : Hid (R = ([], 2)) := hE.out 2 (by unfold terr; rw [if_neg hl0, if_neg Hbad.out, if_pos (show most < (T.size : Int) + tl by omega)]) (by decide)
            clear hE hG hl0
            go_wp2_with fail
            go_ret2
            exact ⟨by rw [HRe.out]; rfl, HB4.out⟩
          · have d7 : decide (most < (T.size : Int) + tl) = false := by simpa using h7
            have HRn := hG.out (by unfold terr; rw [if_neg hl0, if_neg Hbad.out, if_neg (show ¬ most < (T.size : Int) + tl by omega)])
            obtain ⟨L, rfl⟩ : ∃ L : Nat, tl = (L : Int) := ⟨tl.toNat, by omega⟩
            obtain ⟨D, rfl⟩ : ∃ D : Nat, td = (D : Int) := ⟨td.toNat, by omega⟩
            have hto : tout T.data.toList ⟨0, (L : Int), (D : Int)⟩ = rep D T.data.toList L := by unfold tout; rw [if_neg hl0]; rfl
            rw [hto] at HRn
            have HRN := Lib.hid HRn
            clear hE hG HRn hto hl0 dl0
            go_wp2_with fail
            go_loop [6, 9] (fun vo i => ∃ (j : Nat) (U : ByteArray), j ≤ L ∧ i = .int .i64 (j : Int) ∧ vo = .string U ∧ U.size = T.size + j ∧ Hid (U.data.toList = rep D T.data.toList j)) (fun _ i => L - (intOf i).toNat)
            case atStart => exact ⟨0, T, by omega, rfl, rfl, rfl, rfl⟩
            case round =>
              obtain ⟨j, U, hj, rfl, rfl, hU, HU⟩ := hrel
              by_cases hltj : j < L
              · obtain ⟨q, hq⟩ : ∃ q, T.size + j = D + q := ⟨T.size + j - D, by omega⟩
                have hUq : U.size = D + q := by omega
                have hUi : (U.size : Int) - (D : Int) = (q : Int) := by omega
                have hq1 : (q : Int) + 1 ≤ (U.size : Int) := by omega
                have hq0 : (0 : Int) ≤ (q : Int) := by omega
                have hov : ¬ 9223372036854775807 < U.size + (min (q + 1) U.size - q) := by omega
                have hov2 : ¬ 9223372036854775807 < U.size + 1 := by omega
                have hD1 : 1 ≤ D := by omega
                have Hsucc : Hid (rep D T.data.toList (j + 1) = (U ++ U.extract q (q + 1)).data.toList) := by
                  show rep D T.data.toList j ++ [_] = _
                  rw [toL_append, extract_one U q (by omega), ← HU.out, show U.data.toList.length = U.size by simp, show U.size - D = q by omega]
                have hsz : (U ++ U.extract q (q + 1)).size = T.size + (j + 1) := by simp; omega
                have Hsz := Lib.hid hsz
                clear hsz
                go_wp2_with fail
                go_round
                case rel => exact ⟨j + 1, _, by omega, by go_num, rfl, Hsz.out, by show _ = _; rw [Hsucc.out]⟩
                case measure => simp [intOf]; omega
              · obtain rfl : j = L := by omega
                go_wp2_with fail
                go_roundw
                case rel => exact ⟨k + 1, U, by omega, by go_num, rfl, .inr (by omega), by show texp _ _ _ = _; rw [HU.out]; exact HRN.out, HB4⟩
                case measure => simp [intOf]; omega
    · obtain rfl : k = N := by omega
      have hRd : R = (T.data.toList, 0) := by
        rw [← HR.out, List.drop_of_length_le (by rw [HN.out]; exact Nat.le_refl _)]; rfl
      have HRd := Lib.hid hRd
      clear hRd
      go_wp2_with fail
      go_ret2
      exact ⟨by rw [HRd.out]; rfl, HB.out⟩
end Go.Proofs.Ytjnglahjngiofaa
