/- The reference of the chunker: Print, Split; what the document fixes. Conditions: a text of at most ten thousand bytes. -/
import Derived.Test.YtgjofpefglbjjaaKAll
import Derived.Test.YtgjofpefglbjjaaFew
namespace Go.Proofs.Ytgjofpefglbjjaa
open Go.RowKit
set_option maxRecDepth 100000

theorem csplit4 : csplit 1 0 3 [97, 97, 97, 97] = [[97], [97], [97], [97]] := by
  simp [csplit, crun, cstep, cend, c0, rest1, Nat.mod_one]
theorem awake10 (w : World) : Calls Try.prog 38 #[] w fun e w' => e = .returned (.bool true) ∧ Below w.heap.size w w' := by
  have C1 : ∀ W, Calls Try.prog 30 #[.string ⟨#[97, 97, 97, 97]⟩, .agg #[.int .i64 1, .int .i64 0, .int .i64 3]] W fun e w' => ∃ vo, e = .returned (.tuple #[vo, .int .i64 0]) ∧ OwnS w' W.heap.size vo [[97], [97], [97], [97]] ∧ Below W.heap.size W w' := by
    intro W
    have h := split_yes ⟨#[97, 97, 97, 97]⟩ (by decide) 1 0 3 (by decide) (by decide) rfl W
    rw [show (⟨#[97, 97, 97, 97]⟩ : ByteArray).data.toList = [97, 97, 97, 97] from rfl, csplit4] at h
    exact h
  have C2 : ∀ W, Calls Try.prog 30 #[.string ⟨#[]⟩, .agg #[.int .i64 4, .int .i64 0, .int .i64 3]] W fun e w' => e = .returned (.tuple #[.slice none 0 0, .int .i64 1]) ∧ Below W.heap.size W w' := by
    intro W
    exact split_no ⟨#[]⟩ 4 0 3 (by decide) W
  have C1 := Lib.hid C1
  have C2 := Lib.hid C2
  go_enter Try.func38, Try.ntmps38
  go_wp2_with fail
  refine (C1.out _).mono ?_
  rintro e w1 ⟨vo, rfl, hO, hb1⟩
  have HO := Lib.hid hO
  clear hO
  go_wp2_with fail
  refine (C2.out _).mono ?_
  rintro e w2 ⟨rfl, hb2⟩
  have HO2 := Lib.hid (HO.out.below hb2 (Nat.le_refl _))
  have hb02 := bthen hb1 hb2
  clear HO hb1 hb2
  go_wp2_with fail
  refine (same_any w.heap.size w2.heap.size vo _ [[97], [97], [97], [97]] [[97], [97], [97], [97]] (by decide) _ ((HO2.out.below ((Below.refl w2.heap.size w2).alloc (Nat.le_refl _) _) (Nat.le_refl _))) ?_).mono ?_
  · exact ⟨rfl, .inr ⟨w2.heap.size, 4, _, rfl, Nat.le_refl _, Blk.new w2 9 _, Nat.le_refl _, by decide, rfl, rfl⟩⟩
  · rintro e w3 ⟨rfl, nq, rfl⟩
    go_wp2_with fail
    go_ret
    exact ⟨rfl, below_drewN (hb02.alloc hb02.size _) nq⟩

theorem last_take (s : ByteArray) (k : Nat) (hk : k < s.size) : (s.extract (k - 15) (k + 1)).data.toList = last16 (s.data.toList.take (k + 1)) := by
  rw [ByteArray.data_extract, Array.toList_extract, List.extract_eq_take_drop]
  unfold last16
  rw [List.length_take, show s.data.toList.length = s.size by simp, List.drop_take]
  congr 1
  · omega
  · congr 1; omega
theorem print_any (s : ByteArray) (k : Nat) (hs : s.size ≤ 10000) (hk : k < s.size) (w : World) :
    Calls Try.prog 48 #[.string s, .int .i64 (k : Int)] w fun e w' => e = .returned (.int .u64 (fp (s.data.toList.take (k + 1)) : Int)) ∧ Below w.heap.size w w' := by
  have Hl := Lib.hid (last_take s k hk)
  obtain ⟨V, HV⟩ : ∃ V, Hid (fp (s.data.toList.take (k + 1)) = V) := ⟨_, Lib.hid (Eq.refl _)⟩
  rw [HV.out]
  have C2 : ∀ (a : Option Addr) (m cap A : Nat) (hn : m ≤ 100000) (hA : A < 2 ^ m) (w : World) (hr : BRow w a m A) (hnil : a = none → m = 0 ∧ cap = 0), Calls Try.prog 22 #[.slice a m cap, .int .u64 17349423945073011] w fun e w' => e = .returned (.int .u64 (Gf.md A QQ : Int)) ∧ Below w.heap.size w w' :=
    fun a m cap A hn hA w hr hnil => rest_any a m cap A QQ hn hA (by decide) (by decide) w hr hnil
  have C2 := Lib.hid C2
  by_cases h15 : k < 15
  · have hf0 : IntKind.i64.wrap ((k : Int) - 15) = (k : Int) - 15 := by rw [IntKind.wrap_i64]; omega
    have hd : decide ((k : Int) - 15 < 0) = true := by simp; omega
    rw [show k - 15 = 0 by omega] at Hl
    obtain ⟨i, hi⟩ : ∃ i : Int, (k : Int) - 15 = i := ⟨_, rfl⟩
    rw [hi] at hf0 hd
    go_enter Try.func48, Try.ntmps48
    go_wp2_with fail
    refine (text_any (s.extract 0 (k + 1)) (by simp; omega) _).mono ?_
    rintro e w1 ⟨v, rfl, ⟨g, c, rfl, ho⟩, hb1⟩
    have hr := OwnV.row ho
    have hA := tx_lt_list (s.extract 0 (k + 1)).data.toList
    rw [show (s.extract 0 (k + 1)).data.toList.length = (s.extract 0 (k + 1)).size from Array.length_toList ..] at hA
    have hm : 8 * (s.extract 0 (k + 1)).size ≤ 100000 := by simp; omega
    generalize 8 * (s.extract 0 (k + 1)).size = m at *
    obtain ⟨A, HA⟩ : ∃ A, Hid (Gf.tx (s.extract 0 (k + 1)).data.toList = A) := ⟨_, Lib.hid (Eq.refl _)⟩
    rw [HA.out] at hr hA
    have C3 := C2.out (some ⟨g, 0, none⟩) m c A hm hA w1 hr (fun h => by cases h)
    clear ho hr hA hm
    go_wp2_with fail
    refine C3.mono ?_
    rintro e w2 ⟨rfl, hb2⟩
    go_wp2_with fail
    go_ret
    refine ⟨?_, bthen hb1 hb2⟩
    rw [← HV.out, ← HA.out, Hl.out]
    rfl
  · obtain ⟨f, Hf⟩ : ∃ f, Hid (k - 15 = f) := ⟨_, Lib.hid (Eq.refl _)⟩
    rw [Hf.out] at Hl
    have hf0 : IntKind.i64.wrap ((k : Int) - 15) = (f : Int) := by have := Hf.out; rw [IntKind.wrap_i64]; omega
    have hfn : f ≤ k + 1 := by have := Hf.out; omega
    go_enter Try.func48, Try.ntmps48
    go_wp2_with fail
    refine (text_any (s.extract f (k + 1)) (by simp; omega) _).mono ?_
    rintro e w1 ⟨v, rfl, ⟨g, c, rfl, ho⟩, hb1⟩
    have hr := OwnV.row ho
    have hA := tx_lt_list (s.extract f (k + 1)).data.toList
    rw [show (s.extract f (k + 1)).data.toList.length = (s.extract f (k + 1)).size from Array.length_toList ..] at hA
    have hm : 8 * (s.extract f (k + 1)).size ≤ 100000 := by simp; omega
    generalize 8 * (s.extract f (k + 1)).size = m at *
    obtain ⟨A, HA⟩ : ∃ A, Hid (Gf.tx (s.extract f (k + 1)).data.toList = A) := ⟨_, Lib.hid (Eq.refl _)⟩
    rw [HA.out] at hr hA
    have C3 := C2.out (some ⟨g, 0, none⟩) m c A hm hA w1 hr (fun h => by cases h)
    clear ho hr hA hm
    go_wp2_with fail
    refine C3.mono ?_
    rintro e w2 ⟨rfl, hb2⟩
    go_wp2_with fail
    go_ret
    refine ⟨?_, bthen hb1 hb2⟩
    rw [← HV.out, ← HA.out, Hl.out]
    rfl

theorem extract_list (s : ByteArray) (f n : Nat) : (s.extract f n).data.toList = (s.data.toList.take n).drop f := by
  rw [ByteArray.data_extract, Array.toList_extract, List.extract_eq_take_drop, List.drop_take]
theorem mk_of {T : ByteArray} {l : List UInt8} (h : T.data.toList = l) : T = ⟨l.toArray⟩ := by subst h; rfl

set_option maxHeartbeats 4000000 in
theorem rsplit_any (s : ByteArray) (mn b mx : Nat) (hs : s.size ≤ 10000) (hb : b ≤ 20) (hmx : mx ≤ 4096) (w : World) :
    Calls Try.prog 40 #[.string s, .int .i64 (mn : Int), .int .i64 (b : Int), .int .i64 (mx : Int)] w fun e w' => ∃ vo, e = .returned vo ∧ OwnS w' w.heap.size vo (csplit mn b mx s.data.toList) ∧ Below w.heap.size w w' := by
  have ho0 := World.ownsRow_made (base := w.heap.size) (e := 9) (size := 1) w #[] 0 (Nat.le_refl _) (Nat.zero_le _) rfl
  have hb0 := (Below.refl w.heap.size w).alloc (Nat.le_refl _) (.cells #[] 9)
  have HO0 : Hid (OwnS (w.alloc (.cells #[] 9)) w.heap.size (.slice (some ⟨w.heap.size, 0, none⟩) 0 0) []) := ho0
  have Hb0 := Lib.hid hb0
  clear ho0 hb0
  go_enter Try.func40, Try.ntmps40
  go_wp2_with fail
  generalize w.alloc (.cells #[] 9) = w1 at *
  go_loop [11, 12] (fun u i => ∃ k B : Nat, k ≤ b ∧ i = .int .i64 (k : Int) ∧ u = .int .u64 (B : Int) ∧ Hid (B = 2 ^ k)) (fun _ i => b - (intOf i).toNat)
  case atStart => exact ⟨0, 1, by omega, rfl, rfl, rfl⟩
  case round =>
    obtain ⟨k, B, hk, rfl, rfl, HB⟩ := hrel
    by_cases hlt : k < b
    · have hBl : B ≤ 1048576 := by
        rw [HB.out]
        exact Nat.le_trans (Nat.pow_le_pow_right (by decide) (show k ≤ 20 by omega)) (by decide)
      have hm : IntKind.u64.wrap (2 * (B : Int)) = ((2 * B : Nat) : Int) := by rw [IntKind.wrap_u64]; omega
      go_wp2_with fail
      go_round
      case rel => exact ⟨k + 1, 2 * B, by omega, by go_num, by go_num, by show _ = _; rw [HB.out, Nat.pow_succ, Nat.mul_comm]⟩
      case measure => simp [intOf]; omega
    · obtain rfl : k = b := by omega
      have hB1 : 1 ≤ B := by rw [HB.out]; exact Nat.pow_pos (by decide)
      have hB0 : ((B : Int) == 0) = false := by rw [beq_eq_false_iff_ne]; omega
      have hBl : B ≤ 1048576 := by
        rw [HB.out]
        exact Nat.le_trans (Nat.pow_le_pow_right (by decide) (show k ≤ 20 by omega)) (by decide)
      go_wp2_with fail
      go_loopw [9, 10, 13, 14] (fun vo f i _ wr => ∃ j g : Nat, j ≤ s.size ∧ g ≤ j ∧ i = .int .i64 (j : Int) ∧ f = .int .i64 (g : Int) ∧ Hid ((crun mn k mx c0 (s.data.toList.take j)).begun = (s.data.toList.take j).drop g) ∧
          Hid (OwnS wr w.heap.size vo (crun mn k mx c0 (s.data.toList.take j)).out) ∧ Hid (Below w.heap.size w wr))
        (fun _ _ i _ _ => s.size - (intOf i).toNat)
      case atStart => exact ⟨0, 0, by omega, by omega, rfl, rfl, rfl, HO0, Hb0⟩
      case round =>
        clear HO0 Hb0
        obtain ⟨j, g, hj, hg, rfl, rfl, Hg, HO, Hbw⟩ := hrel
        by_cases hlt2 : j < s.size
        · have Hst := Lib.hid (crun_take mn k mx c0 s j hlt2)
          have Hh : Hid ((crun mn k mx c0 (s.data.toList.take j)).hist = s.data.toList.take j) := by show _ = _; rw [crun_hist]; rfl
          have hol := crun_out_le mn k mx c0 (s.data.toList.take j)
          rw [List.length_take, show s.data.toList.length = s.size by simp] at hol
          rw [show c0.out.length = 0 from rfl] at hol
          have Hx : Hid ((s.data.toList.take (j + 1)).drop g = (s.data.toList.take j).drop g ++ [s[j]]) := by
            show _ = _
            rw [List.take_succ_eq_append_getElem (by simpa using hlt2), List.drop_append_of_le_length (by simp; omega)]
            rfl
          obtain ⟨S, HS⟩ : ∃ S, Hid (crun mn k mx c0 (s.data.toList.take j) = S) := ⟨_, Lib.hid (Eq.refl _)⟩
          rw [HS.out] at Hg HO Hst Hh hol
          have HN : Hid (S.begun.length + 1 = j + 1 - g) := by
            show _ = _
            rw [Hg.out]
            simp
            omega
          have Hxx : Hid ((s.extract g (j + 1)).data.toList = S.begun ++ [s[j]]) := by
            show _ = _
            rw [extract_list, Hx.out, ← Hg.out]
          obtain ⟨F, HF⟩ : ∃ F, Hid (fp (s.data.toList.take (j + 1)) = F) := ⟨_, Lib.hid (Eq.refl _)⟩
          have cp := fun W => print_any s j hs hlt2 W
          rw [HF.out] at cp
          have CP := Lib.hid cp
          clear cp
          have hFl : F < 9007199254740992 := by rw [← HF.out]; exact lt53 _
          obtain ⟨N, HNn⟩ : ∃ N, Hid (S.begun.length + 1 = N) := ⟨_, Lib.hid (Eq.refl _)⟩
          have hNi : (j : Int) + 1 - (g : Int) = (N : Int) := by have := HN.out; have := HNn.out; omega
          have hNl : N ≤ 10001 := by omega
          obtain ⟨R, HR⟩ : ∃ R, Hid (F % B = R) := ⟨_, Lib.hid (Eq.refl _)⟩
          have hrem : (F : Int) % (B : Int) = (R : Int) := by rw [← HR.out]; simp
          have hrem2 : (F : Int).tmod (B : Int) = (R : Int) := by rw [Int.tmod_eq_emod_of_nonneg (by omega)]; exact hrem
          have hend : Hid (cend mn k mx (S.hist ++ [s[j]]) (S.begun.length + 1) = ((N == mx) || (decide (mn ≤ N) && (R == 0)))) := by
            show _ = _
            unfold cend
            have e : S.hist ++ [s[j]] = s.data.toList.take (j + 1) := by rw [Hh.out, List.take_succ_eq_append_getElem (by simpa using hlt2)]; rfl
            rw [e, HF.out, HNn.out, ← HB.out, HR.out]
          by_cases e1 : N = mx
          · subst e1
            clear hrem hrem2
            have hos := HO.out
            have hbsw : w.heap.size ≤ _ := Hbw.out.size
            go_wp2_with (first
              | (at_builtin; go_must (refine wpList_append_elem _ rfl (.tmp 49) (.tmp 55) rfl Try.underlying43 info_str rfl (by decide) w.heap.size u9 S.out.length (svals S.out) [.string (s.extract g (j + 1))] hos rfl ?_ rfl rfl rfl ?_ ?_ hbsw ?_; (intro y hy; simp at hy; subst hy; rfl); (unfold maxLen; omega); omega; intro v5 w5 hown5 hg5; have HO5 := Lib.hid hown5; have Hb5 := Lib.hid (grown_below hg5 Hbw.out (fun g e => (World.ownsRow.lt hos g e).1)); clear hown5 hg5 hos))
              | fail)
            go_roundw
            case rel =>
              have hce := hend.out
              rw [show ((N == N) || (decide (mn ≤ N) && (R == 0))) = true by simp] at hce
              have hstep : cstep mn k N S s[j] = ⟨S.hist ++ [s[j]], [], S.out ++ [S.begun ++ [s[j]]]⟩ := by unfold cstep; rw [hce]; rfl
              refine ⟨j + 1, j + 1, by omega, by omega, by go_num, by go_num, ?_, ?_, Hb5⟩
              · show _ = _
                rw [Hst.out, hstep]
                simp
              · show OwnS _ _ _ _
                rw [Hst.out, hstep]
                have h := HO5.out
                rw [mk_of Hxx.out] at h
                unfold OwnS
                rw [svals_snoc, List.length_append]
                exact h
            case measure => simp [intOf]; omega
          · have e1a : ((N : Int) == (mx : Int)) = false := by simp; omega
            have e1b : (N == mx) = false := by simpa using e1
            have E1 := Lib.hid e1b
            clear e1b e1
            by_cases e2 : mn ≤ N
            · have e2a : decide ((mn : Int) ≤ (N : Int)) = true := by simp; omega
              have e2b : decide (mn ≤ N) = true := by simpa using e2
              have E2 := Lib.hid e2b
              clear e2b
              go_wp2_with fail
              refine (CP.out _).mono ?_
              rintro e w3 ⟨rfl, hb3⟩
              have hO3 := HO.out.below hb3 (Nat.le_refl _)
              have HO3 := Lib.hid hO3
              have Hb3 := Lib.hid (Hbw.out.trans (hb3.mono Hbw.out.size))
              clear hO3 hb3
              by_cases e3 : R = 0
              · subst e3
                have hos := HO3.out
                have hbsw : w.heap.size ≤ _ := Hb3.out.size
                go_wp2_with (first
                  | (at_builtin; go_must (refine wpList_append_elem _ rfl (.tmp 49) (.tmp 55) rfl Try.underlying43 info_str rfl (by decide) w.heap.size u9 S.out.length (svals S.out) [.string (s.extract g (j + 1))] hos rfl ?_ rfl rfl rfl ?_ ?_ hbsw ?_; (intro y hy; simp at hy; subst hy; rfl); (unfold maxLen; omega); omega; intro v5 w5 hown5 hg5; have HO5 := Lib.hid hown5; have Hb5 := Lib.hid (grown_below hg5 Hb3.out (fun g e => (World.ownsRow.lt hos g e).1)); clear hown5 hg5 hos))
                  | fail)
                go_roundw
                case rel =>
                  have hce := hend.out
                  rw [show ((N == mx) || (decide (mn ≤ N) && ((0 : Nat) == 0))) = true by rw [E1.out, E2.out]; rfl] at hce
                  have hstep : cstep mn k mx S s[j] = ⟨S.hist ++ [s[j]], [], S.out ++ [S.begun ++ [s[j]]]⟩ := by unfold cstep; rw [hce]; rfl
                  refine ⟨j + 1, j + 1, by omega, by omega, by go_num, by go_num, ?_, ?_, Hb5⟩
                  · show _ = _
                    rw [Hst.out, hstep]
                    simp
                  · show OwnS _ _ _ _
                    rw [Hst.out, hstep]
                    have h := HO5.out
                    rw [mk_of Hxx.out] at h
                    unfold OwnS
                    rw [svals_snoc, List.length_append]
                    exact h
                case measure => simp [intOf]; omega
              · have e3a : ((R : Int) == 0) = false := by simp; omega
                have e3b : (R == 0) = false := by simpa using e3
                have E3 := Lib.hid e3b
                clear e3 e3b
                go_wp2_with fail
                go_roundw
                case rel =>
                  have hce := hend.out
                  rw [show ((N == mx) || (decide (mn ≤ N) && (R == 0))) = false by rw [E1.out, E2.out, E3.out]; rfl] at hce
                  have hstep : cstep mn k mx S s[j] = ⟨S.hist ++ [s[j]], S.begun ++ [s[j]], S.out⟩ := by unfold cstep; rw [hce]; rfl
                  refine ⟨j + 1, g, by omega, by omega, by go_num, rfl, ?_, ?_, Lib.hid Hb3.out⟩
                  · show _ = _
                    rw [Hst.out, hstep, Hx.out, ← Hg.out]
                  · show OwnS _ _ _ _
                    rw [Hst.out, hstep]
                    exact HO3.out
                case measure => simp [intOf]; omega
            · have e2a : decide ((mn : Int) ≤ (N : Int)) = false := by simp; omega
              have e2b : decide (mn ≤ N) = false := by simpa using e2
              have E2 := Lib.hid e2b
              clear e2
              go_wp2_with fail
              go_roundw
              case rel =>
                have hce := hend.out
                rw [show ((N == mx) || (decide (mn ≤ N) && (R == 0))) = false by rw [E1.out, E2.out]; rfl] at hce
                have hstep : cstep mn k mx S s[j] = ⟨S.hist ++ [s[j]], S.begun ++ [s[j]], S.out⟩ := by unfold cstep; rw [hce]; rfl
                refine ⟨j + 1, g, by omega, by omega, by go_num, rfl, ?_, ?_, Lib.hid Hbw.out⟩
                · show _ = _
                  rw [Hst.out, hstep, Hx.out, ← Hg.out]
                · show OwnS _ _ _ _
                  rw [Hst.out, hstep]
                  exact HO.out
              case measure => simp [intOf]; omega
        · obtain rfl : j = s.size := by omega
          have hol := crun_out_le mn k mx c0 (s.data.toList.take s.size)
          rw [List.length_take, show s.data.toList.length = s.size by simp] at hol
          rw [show c0.out.length = 0 from rfl] at hol
          have hcs : Hid (csplit mn k mx s.data.toList = (crun mn k mx c0 (s.data.toList.take s.size)).out ++ rest1 (crun mn k mx c0 (s.data.toList.take s.size)).begun) := by
            show _ = _
            rw [List.take_of_length_le (by simp)]; rfl
          obtain ⟨S, HS⟩ : ∃ S, Hid (crun mn k mx c0 (s.data.toList.take s.size) = S) := ⟨_, Lib.hid (Eq.refl _)⟩
          rw [HS.out] at Hg HO hcs hol
          by_cases hlt3 : g < s.size
          · have Hxx : Hid ((s.extract g s.size).data.toList = S.begun) := by
              show _ = _
              rw [extract_list, Hg.out]
            have hne : Hid (S.begun ≠ []) := by
              intro e
              have h := Hg.out
              rw [e] at h
              have := congrArg List.length h
              simp at this
              omega
            have hos := HO.out
            have hbsw : w.heap.size ≤ _ := Hbw.out.size
            go_wp2_with (first
              | (at_builtin; go_must (refine wpList_append_elem _ rfl (.tmp 63) (.tmp 67) rfl Try.underlying43 info_str rfl (by decide) w.heap.size u9 S.out.length (svals S.out) [.string (s.extract g s.size)] hos rfl ?_ rfl rfl rfl ?_ ?_ hbsw ?_; (intro y hy; simp at hy; subst hy; rfl); (unfold maxLen; omega); omega; intro v5 w5 hown5 hg5; have HO5 := Lib.hid hown5; have Hb5 := Lib.hid (grown_below hg5 Hbw.out (fun g e => (World.ownsRow.lt hos g e).1)); clear hown5 hg5 hos))
              | fail)
            go_ret
            refine ⟨v5, rfl, ?_, Hb5.out⟩
            rw [hcs.out]
            have h := HO5.out
            rw [mk_of Hxx.out] at h
            unfold rest1 OwnS
            rw [if_neg hne.out, svals_snoc, List.length_append]
            exact h
          · go_wp2_with fail
            go_ret
            refine ⟨u9, rfl, ?_, Hbw.out⟩
            rw [hcs.out]
            have e : S.begun = [] := by rw [Hg.out]; simp; omega
            rw [e]
            unfold rest1
            rw [if_pos rfl, List.append_nil]
            exact HO.out
end Go.Proofs.Ytgjofpefglbjjaa
