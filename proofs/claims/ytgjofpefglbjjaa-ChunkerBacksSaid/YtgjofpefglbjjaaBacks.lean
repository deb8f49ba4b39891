/- ChunkerBacks' walk. Conditions: texts that Go can hold. -/
import Derived.Test.YtgjofpefglbjjaaEnds
namespace Go.Proofs.Ytgjofpefglbjjaa
open Go.RowKit
set_option maxRecDepth 100000

set_option maxHeartbeats 2000000 in
theorem backs_no (p q s : ByteArray) (hp : p.size ≤ maxLen) (hq : q.size ≤ maxLen) (hs : s.size ≤ maxLen) (mn b mx : Int) (hn : kErr mn b mx ≠ 0) (w : World) :
    Calls Try.prog 13 #[.string p, .string q, .string s, .agg #[.int .i64 mn, .int .i64 b, .int .i64 mx]] w fun e w' => e = .returned (.bool true) ∧ Below w.heap.size w w' := by
  have hb0 := (Below.refl w.heap.size w).alloc (Nat.le_refl _) (.cells #[.int .i64 mn, .int .i64 b, .int .i64 mx] 41)
  have hcf := Blk.new w 41 #[.int .i64 mn, .int .i64 b, .int .i64 mx]
  have hlt : w.heap.size < (w.alloc (.cells #[.int .i64 mn, .int .i64 b, .int .i64 mx] 41)).heap.size := by simp
  have CF := Lib.hid (fun W => few_any s 1500 (by decide) hs W)
  have CG := Lib.hid (fun W => few_any p 500 (by decide) hp W)
  have CH := Lib.hid (fun W => few_any q 500 (by decide) hq W)
  have z1 := few_size s 1500
  have z2 := few_size p 500
  have z3 := few_size q 500
  obtain ⟨t, ht⟩ : ∃ t, few s 1500 = t := ⟨_, rfl⟩
  obtain ⟨x, hx⟩ : ∃ t, few p 500 = t := ⟨_, rfl⟩
  obtain ⟨y, hy⟩ : ∃ t, few q 500 = t := ⟨_, rfl⟩
  rw [ht] at CF z1
  rw [hx] at CG z2
  rw [hy] at CH z3
  have hov1 : ¬ 9223372036854775807 < x.size + t.size := by omega
  have hov2 : ¬ 9223372036854775807 < y.size + t.size := by omega
  have cs := fun t W => split_no t mn b mx hn W
  obtain ⟨e, he⟩ : ∃ e, kErr mn b mx = e := ⟨_, rfl⟩
  rw [he] at hn cs
  have CQ := Lib.hid cs
  have hne : ((e : Int) != 0) = true := by simp; omega
  have hee : ((e : Int) == (e : Int)) = true := by simp
  have HB := Lib.hid hb0
  have HC := Lib.hid hcf
  clear he hn cs ht hx hy hb0 hcf
  go_enter Try.func13, Try.ntmps13
  go_wp2_with fail
  generalize w.alloc (.cells #[.int .i64 mn, .int .i64 b, .int .i64 mx] 41) = w1 at *
  obtain ⟨P, HP⟩ : ∃ P, Hid (w.heap.size = P) := ⟨_, Lib.hid (Eq.refl _)⟩
  rw [HP.out] at HC hlt ⊢
  refine (CF.out _).mono ?_
  rintro e w2 ⟨rfl, rfl⟩
  go_wp2_with fail
  refine (CG.out _).mono ?_
  rintro e w2 ⟨rfl, rfl⟩
  go_wp2_with fail
  refine (CH.out _).mono ?_
  rintro e w2 ⟨rfl, rfl⟩
  obtain ⟨c0, c1, c2⟩ := conf_cells HC.out
  go_wp2_with fail
  refine (CQ.out _ _).mono ?_
  rintro e w2 ⟨rfl, hb2⟩
  have HB2 := Lib.hid (bthen HB.out hb2)
  have HC2 := Lib.hid (HC.out.below hb2 hlt)
  clear HB HC hlt hb2 c0 c1 c2
  obtain ⟨c0, c1, c2⟩ := conf_cells HC2.out
  go_wp2_with fail
  refine (CQ.out _ _).mono ?_
  rintro e w3 ⟨rfl, hb3⟩
  have HB3 := Lib.hid (bthen HB2.out hb3)
  clear HB2 HC2 hb3 c0 c1 c2
  go_wp2_with fail
  refine (awake10 _).mono ?_
  rintro e w5 ⟨rfl, hb5⟩
  go_wp2_with fail
  go_ret
  exact ⟨rfl, bthen HB3.out hb5⟩

set_option maxHeartbeats 4000000 in
theorem backs_yes (p q s : ByteArray) (hp : p.size ≤ maxLen) (hq : q.size ≤ maxLen) (hs : s.size ≤ maxLen) (mn b mx : Nat) (hb : b ≤ 20) (hx : mx ≤ 4096) (hn : kErr mn b mx = 0) (w : World) :
    Calls Try.prog 13 #[.string p, .string q, .string s, .agg #[.int .i64 (mn : Int), .int .i64 (b : Int), .int .i64 (mx : Int)]] w fun e w' => e = .returned (.bool true) ∧ Below w.heap.size w w' := by
  have hb0 := (Below.refl w.heap.size w).alloc (Nat.le_refl _) (.cells #[.int .i64 (mn : Int), .int .i64 (b : Int), .int .i64 (mx : Int)] 41)
  have hcf := Blk.new w 41 #[.int .i64 (mn : Int), .int .i64 (b : Int), .int .i64 (mx : Int)]
  have hlt : w.heap.size < (w.alloc (.cells #[.int .i64 (mn : Int), .int .i64 (b : Int), .int .i64 (mx : Int)] 41)).heap.size := by simp
  have CF := Lib.hid (fun W => few_any s 1500 (by decide) hs W)
  have CG := Lib.hid (fun W => few_any p 500 (by decide) hp W)
  have CH := Lib.hid (fun W => few_any q 500 (by decide) hq W)
  have z1 := few_size s 1500
  have z2 := few_size p 500
  have z3 := few_size q 500
  obtain ⟨t, ht⟩ : ∃ t, few s 1500 = t := ⟨_, rfl⟩
  obtain ⟨x, hxx⟩ : ∃ t, few p 500 = t := ⟨_, rfl⟩
  obtain ⟨y, hyy⟩ : ∃ t, few q 500 = t := ⟨_, rfl⟩
  rw [ht] at CF z1
  rw [hxx] at CG z2
  rw [hyy] at CH z3
  have hov1 : ¬ 9223372036854775807 < x.size + t.size := by omega
  have hov2 : ¬ 9223372036854775807 < y.size + t.size := by omega
  have l1 := csplit_len mn b mx (x ++ t).data.toList
  have l2 := csplit_len mn b mx (y ++ t).data.toList
  have k1 := ck_split mn b mx (x ++ t).data.toList
  have k2 := ck_split mn b mx (y ++ t).data.toList
  have ca := fun W => split_yes (x ++ t) (by simp; omega) mn b mx hb hx hn W
  have cb := fun W => split_yes (y ++ t) (by simp; omega) mn b mx hb hx hn W
  obtain ⟨L, HL⟩ : ∃ L, Hid (csplit mn b mx (x ++ t).data.toList = L) := ⟨_, Lib.hid (Eq.refl _)⟩
  obtain ⟨M, HM⟩ : ∃ L, Hid (csplit mn b mx (y ++ t).data.toList = L) := ⟨_, Lib.hid (Eq.refl _)⟩
  rw [HL.out] at l1 k1 ca
  rw [HM.out] at l2 k2 cb
  rw [show (x ++ t).data.toList.length = x.size + t.size by simp] at l1
  rw [show (y ++ t).data.toList.length = y.size + t.size by simp] at l2
  have hfl : L.flatten.length = x.size + t.size := by rw [k1.flat]; simp
  have hfm : M.flatten.length = y.size + t.size := by rw [k2.flat]; simp
  rw [ByteArray.data_append, Array.toList_append] at k1 k2
  have hst := fun i j hi hj h0 he hl => backs_same k1 k2 i j hi hj h0 he hl
  rw [show t.data.toList.length = t.size by simp, show x.data.toList.length = x.size by simp, show y.data.toList.length = y.size by simp] at hst
  obtain ⟨S, HS⟩ : ∃ n : Nat, Hid (x.size + t.size = n) := ⟨_, Lib.hid (Eq.refl _)⟩
  obtain ⟨V, HV⟩ : ∃ n : Nat, Hid (y.size + t.size = n) := ⟨_, Lib.hid (Eq.refl _)⟩
  rw [HS.out] at hfl l1 hst
  rw [HV.out] at hfm l2 hst
  obtain ⟨A, HA⟩ : ∃ A : ByteArray, Hid (x ++ t = A) := ⟨_, Lib.hid (Eq.refl _)⟩
  obtain ⟨D, HD⟩ : ∃ A : ByteArray, Hid (y ++ t = A) := ⟨_, Lib.hid (Eq.refl _)⟩
  have hAs : A.size = S := by rw [← HA.out, ← HS.out]; simp
  have hDs : D.size = V := by rw [← HD.out, ← HV.out]; simp
  rw [HA.out] at ca
  rw [HD.out] at cb
  have hSl : S ≤ 2000 := by rw [← HS.out]; omega
  have hVl : V ≤ 2000 := by rw [← HV.out]; omega
  obtain ⟨fx, Hfx⟩ : ∃ f, Hid (endAt L S = f) := ⟨_, Lib.hid (Eq.refl _)⟩
  obtain ⟨fy, Hfy⟩ : ∃ f, Hid (endAt M V = f) := ⟨_, Lib.hid (Eq.refl _)⟩
  have cx := fun B v w h => ends_any B v L S (by omega) (by omega) (by omega) w h
  have cy := fun B v w h => ends_any B v M V (by omega) (by omega) (by omega) w h
  have tx := fun B v ai capi p w h hr => tail_any B v L (by omega) ai capi fx p w h hr
  have ty := fun B v ai capi p w h hr => tail_any B v M (by omega) ai capi fy p w h hr
  rw [Hfx.out] at cx hst
  rw [Hfy.out] at cy hst
  have hfxb : ∀ k, -100000 ≤ fx k ∧ fx k ≤ 2000 := by
    intro k
    rw [← Hfx.out]
    unfold endAt
    have := take_flat_le L (k + 1)
    omega
  have htl : (tailL L fx 0 L.length).length ≤ 1000000 := by have := tailL_le L fx 0 L.length; omega
  have htl2 : ∀ p, (tailL L fx p L.length).length ≤ 1000000 := fun p => by have := tailL_le L fx p L.length; omega
  obtain ⟨N, HN⟩ : ∃ N, Hid (L.length = N) := ⟨_, Lib.hid (Eq.refl _)⟩
  obtain ⟨K, HK⟩ : ∃ N, Hid (M.length = N) := ⟨_, Lib.hid (Eq.refl _)⟩
  rw [HN.out] at l1 cx tx
  rw [HK.out] at l2 cy ty
  have CA := Lib.hid ca
  have CB := Lib.hid cb
  have CX := Lib.hid cx
  have CY := Lib.hid cy
  have TX := Lib.hid tx
  have TY := Lib.hid ty
  have Hst := Lib.hid hst
  have Hfb := Lib.hid hfxb
  have Htl := Lib.hid htl2
  have HB := Lib.hid hb0
  have HC := Lib.hid hcf
  clear hn ht hxx hyy hb0 hcf ca cb k1 k2 hfl hfm cx cy tx ty hst hfxb htl htl2
  go_enter Try.func13, Try.ntmps13
  go_wp2_with fail
  generalize w.alloc (.cells #[.int .i64 (mn : Int), .int .i64 (b : Int), .int .i64 (mx : Int)] 41) = w1 at *
  obtain ⟨P, HP⟩ : ∃ P, Hid (w.heap.size = P) := ⟨_, Lib.hid (Eq.refl _)⟩
  rw [HP.out] at HC hlt ⊢
  refine (CF.out _).mono ?_
  rintro e w2 ⟨rfl, rfl⟩
  go_wp2_with fail
  refine (CG.out _).mono ?_
  rintro e w2 ⟨rfl, rfl⟩
  go_wp2_with fail
  rw [HA.out]
  refine (CH.out _).mono ?_
  rintro e w2 ⟨rfl, rfl⟩
  obtain ⟨c0, c1, c2⟩ := conf_cells HC.out
  go_wp2_with fail
  rw [HD.out]
  refine (CA.out _).mono ?_
  rintro e w2 ⟨v1, rfl, hO1, hb2⟩
  have HB2 := Lib.hid (bthen HB.out hb2)
  have HC2 := Lib.hid (HC.out.below hb2 hlt)
  have HO1 := Lib.hid hO1
  clear HB HC hlt hb2 c0 c1 c2 hO1
  obtain ⟨c0, c1, c2⟩ := conf_cells HC2.out
  go_wp2_with fail
  refine (CB.out _).mono ?_
  rintro e w3 ⟨v2, rfl, hO2, hb3⟩
  have HB3 := Lib.hid (bthen HB2.out hb3)
  have HO13 := Lib.hid (HO1.out.below hb3 (Nat.le_refl _))
  have HO23 := Lib.hid hO2
  clear HB2 HC2 hb3 c0 c1 c2 hO2 HO1
  go_wp2_with fail
  refine (CX.out _ _ _ HO13.out).mono ?_
  rintro e w4 ⟨a1, cap1, rfl, hr1, hb4⟩
  have HB4 := Lib.hid (bthen HB3.out hb4)
  have HO14 := Lib.hid (HO13.out.below hb4 (Nat.le_refl _))
  have HO24 := Lib.hid (HO23.out.below hb4 (Nat.le_refl _))
  have HR1 := Lib.hid hr1
  clear HB3 hb4 HO13 HO23 hr1
  go_wp2_with fail
  refine (CY.out _ _ _ HO24.out).mono ?_
  rintro e w5 ⟨a2, cap2, rfl, hr2, hb5⟩
  have HB5 := Lib.hid (bthen HB4.out hb5)
  have HO15 := Lib.hid (HO14.out.below hb5 (Nat.le_refl _))
  have HO25 := Lib.hid (HO24.out.below hb5 (Nat.le_refl _))
  have HR15 := Lib.hid (HR1.out.below hb5)
  have HR25 := Lib.hid hr2
  clear HB4 hb5 HO14 HO24 HR1 hr2
  go_wp2_with fail
  go_loopw [15, 64] (fun c i wr => ∃ (k nq : Nat) (C : Int), k ≤ N ∧ i = .int .i64 (k : Int) ∧ c = .int .i64 C ∧ -1 ≤ C ∧ C ≤ 2000 ∧ Hid (wr = w5.drewN nq) ∧
      Hid (C < 0 ∨ ∃ i j, i < N ∧ j < K ∧ fx i = C ∧ fy j = C ∧ C ≤ (t.size : Int) - 16))
    (fun _ i _ => N - (intOf i).toNat)
  case atStart => exact ⟨0, 0, -1, by omega, rfl, rfl, by omega, by omega, rfl, .inl (by omega)⟩
  case round =>
    obtain ⟨k, nq, C, hk, rfl, rfl, hC0, hC1, HW, Hg⟩ := hrel
    by_cases hlt : k < N
    · obtain ⟨g, off, rfl, hgl, hc0⟩ := HR15.out.get k hlt
      have hc : wr.cell? ⟨g, off + k, none⟩ = some (.int .i64 (fx k)) := by rw [HW.out]; exact hc0
      have hfb := Hfb.out k
      obtain ⟨X, HX⟩ : ∃ X, Hid (fx k = X) := ⟨_, Lib.hid (Eq.refl _)⟩
      rw [HX.out] at hc hfb
      clear hc0
      go_wp2_with fail
      clear hc
      go_loopw [15, 70] (fun c i wr => ∃ (l nq : Nat) (C : Int), l ≤ K ∧ i = .int .i64 (l : Int) ∧ c = .int .i64 C ∧ -1 ≤ C ∧ C ≤ 2000 ∧ Hid (wr = w5.drewN nq) ∧
          Hid (C < 0 ∨ ∃ i j, i < N ∧ j < K ∧ fx i = C ∧ fy j = C ∧ C ≤ (t.size : Int) - 16))
        (fun _ i _ => K - (intOf i).toNat)
      case atStart => exact ⟨0, nq, C, by omega, rfl, rfl, hC0, hC1, HW, Hg⟩
      case round =>
        clear HW Hg hC0 hC1
        obtain ⟨l, nq2, C2, hl, rfl, rfl, hC0, hC1, HW, Hg⟩ := hrel
        by_cases hlt2 : l < K
        · obtain ⟨g2, off2, rfl, hgl2, hc0⟩ := HR25.out.get l hlt2
          have hc2 : wr.cell? ⟨g2, off2 + l, none⟩ = some (.int .i64 (fy l)) := by rw [HW.out]; exact hc0
          obtain ⟨Y, HY⟩ : ∃ X, Hid (fy l = X) := ⟨_, Lib.hid (Eq.refl _)⟩
          rw [HY.out] at hc2
          clear hc0
          by_cases e1 : X = Y
          · subst e1
            by_cases e2 : X ≤ (t.size : Int) - 16
            · have d2 : decide (X ≤ (t.size : Int) - 16) = true := by simpa using e2
              by_cases e3 : C2 < X
              · have d3 : decide (C2 < X) = true := by simpa using e3
                have Hg2 : Hid (X < 0 ∨ ∃ i j, i < N ∧ j < K ∧ fx i = X ∧ fy j = X ∧ X ≤ (t.size : Int) - 16) := .inr ⟨k, l, hlt, hlt2, HX.out, HY.out, e2⟩
                have hX0 : -1 ≤ X := by omega
                go_wp2_with fail
                go_roundw
                case rel => exact ⟨l + 1, _, X, by omega, by go_num, rfl, hX0, hfb.2, HW, Hg2⟩
                case measure => simp [intOf]; omega
              · have d3 : decide (C2 < X) = false := by simpa using e3
                go_wp2_with fail
                go_roundw
                case rel => exact ⟨l + 1, _, C2, by omega, by go_num, rfl, hC0, hC1, HW, Hg⟩
                case measure => simp [intOf]; omega
            · have d2 : decide (X ≤ (t.size : Int) - 16) = false := by simpa using e2
              go_wp2_with fail
              go_roundw
              case rel => exact ⟨l + 1, _, C2, by omega, by go_num, rfl, hC0, hC1, HW, Hg⟩
              case measure => simp [intOf]; omega
          · have d1 : (X == Y) = false := by simpa using e1
            go_wp2_with fail
            go_roundw
            case rel => exact ⟨l + 1, _, C2, by omega, by go_num, rfl, hC0, hC1, HW, Hg⟩
            case measure => simp [intOf]; omega
        · obtain rfl : l = K := by omega
          go_wp2_with fail
          go_roundw
          case rel => exact ⟨k + 1, _, C2, by omega, by go_num, rfl, hC0, hC1, HW, Hg⟩
          case measure => simp [intOf]; omega
    · obtain rfl : k = N := by omega
      have HB6 := Lib.hid (below_drewN HB5.out nq)
      have HO16 : Hid (OwnS (w5.drewN nq) _ v1 L) := HO15.out
      have HO26 : Hid (OwnS (w5.drewN nq) _ v2 M) := HO25.out
      have HR16 : Hid (IRow (w5.drewN nq) a1 k fx) := HR15.out
      have HR26 : Hid (IRow (w5.drewN nq) a2 K fy) := HR25.out
      rw [← HW.out] at HB6 HO16 HO26 HR16 HR26
      clear HB5 HO15 HO25 HR15 HR25
      by_cases hC : C < 0
      · have d0 : decide (C < 0) = true := by simpa using hC
        go_wp2_with fail
        refine (awake10 _).mono ?_
        rintro e w6 ⟨rfl, hb6⟩
        go_wp2_with fail
        go_ret
        exact ⟨rfl, bthen HB6.out hb6⟩
      · have d0 : decide (C < 0) = false := by simpa using hC
        have Heq : Hid (tailL L fx C L.length = tailL M fy C M.length) := by
          rcases Hg.out with h | ⟨i, j, hi, hj, e1, e2, h3⟩
          · omega
          · have := Hst.out i j (by rw [HN.out]; exact hi) (by rw [HK.out]; exact hj)
            rw [e1] at this
            exact this (by omega) e2.symm h3
        have Htc := Lib.hid (Htl.out C)
        obtain ⟨T, HT⟩ : ∃ T, Hid (tailL L fx C L.length = T) := ⟨_, Lib.hid (Eq.refl _)⟩
        go_wp2_with fail
        refine (awake10 _).mono ?_
        rintro e w6 ⟨rfl, hb6⟩
        have HB7 := Lib.hid (bthen HB6.out hb6)
        have HO17 := Lib.hid (HO16.out.below hb6 (Nat.le_refl _))
        have HO27 := Lib.hid (HO26.out.below hb6 (Nat.le_refl _))
        have HR17 := Lib.hid (HR16.out.below hb6)
        have HR27 := Lib.hid (HR26.out.below hb6)
        clear HB6 HO16 HO26 HR16 HR26 hb6
        go_wp2_with fail
        refine (TX.out _ _ _ _ _ _ HO17.out HR17.out).mono ?_
        rintro e w7 ⟨vo1, rfl, hO3, hb7⟩
        have HB8 := Lib.hid (bthen HB7.out hb7)
        have HO28 := Lib.hid (HO27.out.below hb7 (Nat.le_refl _))
        have HR28 := Lib.hid (HR27.out.below hb7)
        have HO38 := Lib.hid hO3
        clear HB7 HO17 HO27 HR17 HR27 hb7 hO3
        go_wp2_with fail
        refine (TY.out _ _ _ _ _ _ HO28.out HR28.out).mono ?_
        rintro e w8 ⟨vo2, rfl, hO4, hb8⟩
        have HB9 := Lib.hid (bthen HB8.out hb8)
        have HO39 := Lib.hid (HO38.out.below hb8 (Nat.le_refl _))
        have HO49 := Lib.hid hO4
        clear HB8 HO28 HR28 HO38 hb8 hO4
        have e1 := HN.out
        have e2 := HK.out
        have HE2 : Hid (tailL L fx C k = T) := by show _ = _; rw [← e1]; exact HT.out
        have HE3 : Hid (tailL M fy C K = T) := by show _ = _; rw [← e2, ← Heq.out]; exact HT.out
        rw [HE2.out] at HO39
        rw [HE3.out] at HO49
        have htc : T.length ≤ 1000000 := by rw [← HT.out]; exact Htc.out
        clear e1 e2
        go_wp2_with fail
        refine (same_any _ _ vo1 vo2 T T htc _ HO39.out HO49.out).mono ?_
        rintro e w9 ⟨rfl, nq9, rfl⟩
        have hif : (if T = T then (0 : Int) else -1) = 0 := if_pos rfl
        rw [hif]
        go_wp2_with fail
        go_ret
        exact ⟨rfl, below_drewN HB9.out nq9⟩

theorem backs_any (p q s : ByteArray) (hp : p.size ≤ maxLen) (hq : q.size ≤ maxLen) (hs : s.size ≤ maxLen) (mn b mx : Int) (w : World) :
    Calls Try.prog 13 #[.string p, .string q, .string s, .agg #[.int .i64 mn, .int .i64 b, .int .i64 mx]] w fun e w' => e = .returned (.bool true) ∧ Below w.heap.size w w' := by
  by_cases h : kErr mn b mx = 0
  · obtain ⟨m, b', x, rfl, rfl, rfl, h1, h2, h3, h4⟩ := kerr_ok h
    exact backs_yes p q s hp hq hs m b' x h3 h4 h w
  · exact backs_no p q s hp hq hs mn b mx h w
end Go.Proofs.Ytgjofpefglbjjaa
