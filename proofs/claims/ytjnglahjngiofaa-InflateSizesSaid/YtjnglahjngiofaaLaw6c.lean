/- InflateSizes. Conditions: none. -/
import Derived.Test.YtjnglahjngiofaaLaw6a
import Derived.Test.YtjnglahjngiofaaFix6
import Derived.Test.YtjnglahjngiofaaFixed
namespace Go.Proofs.Ytjnglahjngiofaa
open Go.RowKit
set_option maxRecDepth 100000

theorem sizeS_out (far : Bool) (i : Int) (h : i < 0 ∨ 29 < i) : sizeS far i = (0, 0) := by
  unfold sizeS
  cases far
  · rw [if_neg (by decide), if_pos (by omega)]
  · rw [if_pos rfl, if_pos (by omega)]

set_option maxHeartbeats 16000000 in
theorem sizes_law (i : Int) (lo : -9223372036854775808 ≤ i) (hi : i ≤ 9223372036854775807) (w : World) :
    Calls Try.prog 9 #[.int .i64 i] w fun e w' => e = .returned (.bool true) ∧ Below w.heap.size w w' := by
  have CA := Lib.hid awake6_any
  have CL := Lib.hid lengths_any
  have CF := Lib.hid rfixed_any
  have CS := Lib.hid rsizes_any
  have CN := Lib.hid (size_near i)
  have CD := Lib.hid (size_far i)
  have CO := Lib.hid order_any
  go_enter Try.func9, Try.ntmps9
  go_wp2_with fail
  refine (CL.out _).mono ?_
  rintro e w1 ⟨g1, c1, g2, rfl, hI1, hI2, _, _, hb1⟩
  have HI1 := Lib.hid hI1
  have HI2 := Lib.hid hI2
  have HB1 := Lib.hid hb1
  clear hI1 hI2 hb1 CL
  go_wp2_with fail
  refine (CF.out _).mono ?_
  rintro e w2 ⟨a1, ca1, a2, ca2, rfl, hJ1, hJ2, hb2⟩
  have HI1b := Lib.hid (HI1.out.below hb2)
  have HI2b := Lib.hid (HI2.out.below hb2)
  have HJ1 := Lib.hid hJ1
  have HJ2 := Lib.hid hJ2
  have HB2 := Lib.hid (bthen HB1.out hb2)
  clear hJ1 hJ2 hb2 HI1 HI2 HB1 CF
  go_wp2_with fail
  refine (CA.out _).mono ?_
  rintro e w3 ⟨rfl, hb3⟩
  have HI1 := Lib.hid (HI1b.out.below hb3)
  have HI2 := Lib.hid (HI2b.out.below hb3)
  have HJ1b := Lib.hid (HJ1.out.below hb3)
  have HJ2b := Lib.hid (HJ2.out.below hb3)
  have HB3 := Lib.hid (bthen HB2.out hb3)
  clear hb3 HI1b HI2b HJ1 HJ2 HB2
  go_wp2_with fail
  go_loopw [43] (fun i_ wr => ∃ k : Nat, k ≤ 288 ∧ i_ = .int .i64 (k : Int) ∧ Hid (∃ n, wr = w3.drewN n)) (fun i_ _ => 288 - (intOf i_).toNat)
  case atStart => exact ⟨0, by omega, rfl, Lib.hid ⟨0, rfl⟩⟩
  case round =>
    obtain ⟨k, hk, rfl, HR⟩ := hrel
    have HQ : Hid (∀ p, wr.cell? p = w3.cell? p) := Lib.hid (by obtain ⟨n, e⟩ := HR.out; intro p; rw [e]; rfl)
    have HZ : Hid (wr.heap.size = w3.heap.size) := Lib.hid (by obtain ⟨n, e⟩ := HR.out; rw [e]; rfl)
    by_cases hlt : k < 288
    · have d1 : decide ((k : Int) < 288) = true := by rw [decide_eq_true_eq]; omega
      obtain ⟨b1, o1, e1, hbl1, x1⟩ := HI1.out.get k hlt
      injection e1 with e1
      injection e1 with e1 e1b
      subst e1 e1b
      obtain ⟨b2, o2, rfl, hbl2, x2⟩ := HJ1b.out.get k hlt
      obtain ⟨f, Hf⟩ : ∃ f, Hid (fixL k = f) := ⟨_, Lib.hid (Eq.refl _)⟩
      rw [Hf.out] at x1 x2
      have y1 : wr.cell? ⟨g1, 0 + k, none⟩ = some (.int .i64 f) := (HQ.out _).trans x1
      have y2 : wr.cell? ⟨b2, o2 + k, none⟩ = some (.int .i64 f) := (HQ.out _).trans x2
      by_cases h32 : k < 32
      · have d2 : decide ((k : Int) < 32) = true := by rw [decide_eq_true_eq]; omega
        have h32I : (k : Int) < 32 := by omega
        obtain ⟨b3, o3, e3, hbl3, x3⟩ := HI2.out.get k h32
        injection e3 with e3
        injection e3 with e3 e3b
        subst e3 e3b
        obtain ⟨b4, o4, rfl, hbl4, x4⟩ := HJ2b.out.get k h32
        have y3 : wr.cell? ⟨g2, 0 + k, none⟩ = some (.int .i64 5) := (HQ.out _).trans x3
        have y4 : wr.cell? ⟨b4, o4 + k, none⟩ = some (.int .i64 5) := (HQ.out _).trans x4
        rw [Nat.zero_add] at y1 y3
        have z1 : g1 < wr.heap.size := by rw [HZ.out]; exact hbl1
        have z2 : b2 < wr.heap.size := by rw [HZ.out]; exact hbl2
        have z3 : g2 < wr.heap.size := by rw [HZ.out]; exact hbl3
        have z4 : b4 < wr.heap.size := by rw [HZ.out]; exact hbl4
        clear hbl1 hbl2 hbl3 hbl4 x1 x2 x3 x4
        go_wp2_with fail
        go_quiet (fail)
        all_goals
          go_wp2_with fail
          go_roundw
          case rel => exact ⟨k + 1, by omega, by go_num, Lib.hid (by obtain ⟨n, e⟩ := HR.out; rw [e]; exact ⟨_, World.drewN_drewN _ _ _⟩)⟩
          case measure => simp [intOf]; omega
      · have d2 : decide ((k : Int) < 32) = false := by rw [decide_eq_false_iff_not]; omega
        rw [Nat.zero_add] at y1
        have z1 : g1 < wr.heap.size := by rw [HZ.out]; exact hbl1
        have z2 : b2 < wr.heap.size := by rw [HZ.out]; exact hbl2
        clear hbl1 hbl2 x1 x2
        go_wp2_with fail
        go_quiet (fail)
        all_goals
          go_wp2_with fail
          go_roundw
          case rel => exact ⟨k + 1, by omega, by go_num, Lib.hid (by obtain ⟨n, e⟩ := HR.out; rw [e]; exact ⟨_, World.drewN_drewN _ _ _⟩)⟩
          case measure => simp [intOf]; omega
    · obtain rfl : k = 288 := by omega
      clear hlt hk HI1 HI2 HJ1b HJ2b
      have HBn : Hid (Below w.heap.size w wr) := Lib.hid (by obtain ⟨n, e⟩ := HR.out; rw [e]; exact below_drewN HB3.out n)
      clear HR HQ HZ HB3
      go_wp2_with fail
      refine (CS.out _).mono ?_
      rintro e w5 ⟨ga, gb, gc, gd, rfl, hA, hB, hC, hD, hb5⟩
      have HA := Lib.hid hA
      have HBb := Lib.hid hB
      have HC := Lib.hid hC
      have HD := Lib.hid hD
      have HB5 := Lib.hid (bthen HBn.out hb5)
      obtain ⟨⟨X, M⟩, HXM⟩ : ∃ x, Hid (sizeS false i = x) := ⟨_, Lib.hid (Eq.refl _)⟩
      obtain ⟨⟨Y, N⟩, HYN⟩ : ∃ x, Hid (sizeS true i = x) := ⟨_, Lib.hid (Eq.refl _)⟩
      rw [HXM.out] at CN
      rw [HYN.out] at CD
      clear hA hB hC hD hb5 HBn CS
      go_wp2_with fail
      refine (CN.out _).mono ?_
      rintro e w6 ⟨rfl, h6⟩
      have HR6 := Lib.hid h6
      clear h6
      go_wp2_with fail
      refine (CD.out _).mono ?_
      rintro e w7 ⟨rfl, h7⟩
      have HB7 : Hid (Below w.heap.size w w7) := Lib.hid (by
        obtain ⟨n6, e6⟩ := HR6.out
        obtain ⟨n7, e7⟩ := h7
        rw [e7, e6]
        exact below_drewN (below_drewN HB5.out n6) n7)
      have HQ7 : Hid (∀ p, w7.cell? p = w5.cell? p) := Lib.hid (by
        obtain ⟨n6, e6⟩ := HR6.out
        obtain ⟨n7, e7⟩ := h7
        rw [e7, e6]
        exact fun p => rfl)
      have HZ7 : Hid (w7.heap.size = w5.heap.size) := Lib.hid (by
        obtain ⟨n6, e6⟩ := HR6.out
        obtain ⟨n7, e7⟩ := h7
        rw [e7, e6]
        rfl)
      clear h7 HR6
      by_cases hout : i < 0 ∨ 29 < i
      · have e1 := sizeS_out false i hout
        have e2 := sizeS_out true i hout
        rw [HXM.out] at e1
        rw [HYN.out] at e2
        injection e1 with e1a e1b
        injection e2 with e2a e2b
        subst e1a e1b e2a e2b
        by_cases h0 : i < 0
        · have d0 : decide (i < 0) = true := by rw [decide_eq_true_eq]; exact h0
          clear hout h0 HXM HYN CN CD
          go_wp2_with fail
          go_ret
          exact ⟨rfl, HB7.out⟩
        · have d0 : decide (i < 0) = false := by rw [decide_eq_false_iff_not]; exact h0
          have d1 : decide (29 < i) = true := by rw [decide_eq_true_eq]; omega
          clear hout h0 HXM HYN CN CD
          go_wp2_with fail
          go_ret
          exact ⟨rfl, HB7.out⟩
      · obtain ⟨k, rfl⟩ : ∃ k : Nat, i = (k : Int) := ⟨i.toNat, by omega⟩
        have hk : k ≤ 29 := by omega
        have d0 : decide ((k : Int) < 0) = false := by rw [decide_eq_false_iff_not]; omega
        have d1 : decide ((29 : Int) < (k : Int)) = false := by rw [decide_eq_false_iff_not]; omega
        have d1b : decide (29 < k) = false := by rw [decide_eq_false_iff_not]; omega
        obtain ⟨b3, o3, e3, hbl3, x3⟩ := HC.out.get k (by omega)
        injection e3 with e3
        injection e3 with e3 e3b
        subst e3 e3b
        obtain ⟨b4, o4, e4, hbl4, x4⟩ := HD.out.get k (by omega)
        injection e4 with e4
        injection e4 with e4 e4b
        subst e4 e4b
        rw [HYN.out] at x3 x4
        have y3 : w7.cell? ⟨gc, 0 + k, none⟩ = some (.int .i64 (Y : Int)) := (HQ7.out _).trans x3
        have y4 : w7.cell? ⟨gd, 0 + k, none⟩ = some (.int .i64 (N : Int)) := (HQ7.out _).trans x4
        have hl3 : gc < w7.heap.size := by rw [HZ7.out]; exact hbl3
        have hl4 : gd < w7.heap.size := by rw [HZ7.out]; exact hbl4
        rw [Nat.zero_add] at y3 y4
        by_cases h29 : k = 29
        · subst h29
          have e1 : sizeS false ((29 : Nat) : Int) = (0, 0) := by decide
          rw [HXM.out] at e1
          injection e1 with e1a e1b
          subst e1a e1b
          clear hout HXM HYN CN CD x3 x4 hbl3 hbl4 HA HBb HC HD
          go_wp2_with fail
          refine (CO.out _).mono ?_
          rintro e w8 ⟨rfl, hO, hb8⟩
          have z3 := (hb8.cell (p := ⟨gc, 29, none⟩) hl3).trans y3
          have z4 := (hb8.cell (p := ⟨gd, 29, none⟩) hl4).trans y4
          have q0 := hO.cell 0
          have q4 := hO.cell 4
          have q18 := hO.cell 18
          simp at q0 q4 q18
          have HB8 := Lib.hid (bthen HB7.out hb8)
          clear y3 y4 hb8 hO hl3 hl4
          go_wp2_with fail
          go_ret
          exact ⟨rfl, HB8.out⟩
        · have d29 : ((k : Int) == 29) = false := by simp; omega
          have d29b : decide ((k : Int) = 29) = false := by rw [decide_eq_false_iff_not]; omega
          have d2 : decide ((k : Int) < 29) = true := by rw [decide_eq_true_eq]; omega
          have hk29 : k < 29 := by omega
          have hk29I : (k : Int) < 29 := by omega
          obtain ⟨b1, o1, e1, hbl1, x1⟩ := HA.out.get k hk29
          injection e1 with e1
          injection e1 with e1 e1b
          subst e1 e1b
          obtain ⟨b2, o2, e2, hbl2, x2⟩ := HBb.out.get k hk29
          injection e2 with e2
          injection e2 with e2 e2b
          subst e2 e2b
          rw [HXM.out] at x1 x2
          have y1 : w7.cell? ⟨ga, 0 + k, none⟩ = some (.int .i64 (X : Int)) := (HQ7.out _).trans x1
          have y2 : w7.cell? ⟨gb, 0 + k, none⟩ = some (.int .i64 (M : Int)) := (HQ7.out _).trans x2
          rw [Nat.zero_add] at y1 y2
          have hl1 : ga < w7.heap.size := by rw [HZ7.out]; exact hbl1
          have hl2 : gb < w7.heap.size := by rw [HZ7.out]; exact hbl2
          clear hout HXM HYN CN CD x1 x2 x3 x4 hbl1 hbl2 hbl3 hbl4 HA HBb HC HD
          go_wp2_with fail
          refine (CO.out _).mono ?_
          rintro e w8 ⟨rfl, hO, hb8⟩
          have z3 := (hb8.cell (p := ⟨gc, k, none⟩) hl3).trans y3
          have z4 := (hb8.cell (p := ⟨gd, k, none⟩) hl4).trans y4
          have q0 := hO.cell 0
          have q4 := hO.cell 4
          have q18 := hO.cell 18
          simp at q0 q4 q18
          have HB8 := Lib.hid (bthen HB7.out hb8)
          clear y1 y2 y3 y4 hb8 hO hl3 hl4
          go_wp2_with fail
          go_ret
          exact ⟨rfl, HB8.out⟩
end Go.Proofs.Ytjnglahjngiofaa
