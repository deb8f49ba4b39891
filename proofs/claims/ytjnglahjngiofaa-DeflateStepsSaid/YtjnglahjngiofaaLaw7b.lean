/- DeflateSteps: the law. Conditions: none. -/
import Derived.Test.YtjnglahjngiofaaLaw7a
namespace Go.Proofs.Ytjnglahjngiofaa
open Go.RowKit
set_option maxRecDepth 100000

theorem steps_len (L : List Int) (k : Nat) : ∀ i, L.length - i ≤ k → (stepsFrom L i).length ≤ k := by
  induction k with
  | zero => intro i hi; rw [stepsFrom_out L i (by omega)]; exact Nat.le_refl _
  | succ k ih =>
    intro i hi
    by_cases h : i < L.length
    · rw [stepsFrom_in L i h, List.length_cons]
      have := stepAt_pos L i
      have := ih (i + (stepAt L i).2) (by omega)
      omega
    · rw [stepsFrom_out L i h]; simp

set_option maxHeartbeats 8000000 in
theorem dsteps_any (a : Option Addr) (len cap0 : Nat) (m : Nat → Int) (hlen : len ≤ 9223372036854775807) (w : World) (hr : IRow w a len m) :
    Calls Try.prog 3 #[.slice a len cap0] w fun e w' => e = .returned (.bool true) ∧ Below w.heap.size w w' := by
  have Hr := Lib.hid hr
  have CA := Lib.hid awake7_any
  have hb0 := (Below.refl w.heap.size w).alloc (Nat.le_refl _) (.cells #[] 3)
  have hr0 := World.ownsRow_made (base := w.heap.size) (e := 3) (size := 1) w #[] 0 (Nat.le_refl _) (Nat.zero_le _) rfl
  have HO0 : Hid ((w.alloc (.cells #[] 3)).ownsRow w.heap.size 3 1 (.slice (some ⟨w.heap.size, 0, none⟩) 0 0) ([] : List Int).length (zvals [])) := hr0
  have HB0 := Lib.hid hb0
  clear hr hb0 hr0
  go_enter Try.func3, Try.ntmps3
  go_wp2_with fail
  obtain ⟨w1, HW1⟩ : ∃ W, Hid (w.alloc (.cells #[] 3) = W) := ⟨_, Lib.hid (Eq.refl _)⟩
  rw [HW1.out] at HO0 HB0 ⊢
  clear HW1
  go_loopw [3, 4] (fun v_ i_ wr => ∃ (i : Nat) (L : List Int), i ≤ len ∧ i ≤ 400 ∧ i_ = .int .i64 (i : Int) ∧ L.length ≤ 400 ∧ L.length ≤ i ∧ Hid (wr.ownsRow w.heap.size 3 1 v_ L.length (zvals L)) ∧ Hid (Below w.heap.size w wr)) (fun _ i _ => 400 - (intOf i).toNat)
  case atStart => exact ⟨0, [], by omega, by omega, rfl, by decide, by decide, HO0, HB0⟩
  case round =>
    clear HO0 HB0
    obtain ⟨i, L, hil, hi4, rfl, hL4, hLi, HO, HB⟩ := hrel
    by_cases hgo : i < len ∧ i < 400
    · have d1 : decide ((i : Int) < (len : Int)) = true := by rw [decide_eq_true_eq]; omega
      have d2 : decide ((i : Int) < 400) = true := by rw [decide_eq_true_eq]; omega
      obtain ⟨b, off, rfl, _, c0⟩ := (Hr.out.below HB.out).get i hgo.1
      obtain ⟨x, Hx⟩ : ∃ R, Hid (m i = R) := ⟨_, Lib.hid (Eq.refl _)⟩
      rw [Hx.out] at c0
      obtain ⟨M, k, hmin, hmax⟩ := clamp15_run x
      have hos := HO.out
      have hbsw : w.heap.size ≤ wr.heap.size := HB.out.size
      go_wp2_with (first
        | (at_builtin; go_must (refine wpList_append_elem wr rfl (.tmp 19) (.tmp 26) rfl Try.underlying22 info_int rfl (by decide) w.heap.size _ L.length (zvals L) [.int .i64 k] hos rfl ?_ rfl rfl rfl ?_ ?_ hbsw ?_; (intro y hy; simp at hy; subst hy; rfl); (unfold maxLen; omega); omega; intro v7 w7 hown7 hg7; have HO7 : Hid (w7.ownsRow w.heap.size 3 1 v7 (L ++ [k]).length (zvals (L ++ [k]))) := (by show World.ownsRow _ _ _ _ _ _ _; rw [zvals_append, List.length_append]; exact hown7); have HB7 := Lib.hid (HB.out.trans (below_grown hos hg7 hbsw)); clear hown7 hg7))
        | fail)
      go_roundw
      case rel => exact ⟨i + 1, L ++ [k], by omega, by omega, by go_num, by simp; omega, by simp; omega, HO7, HB7⟩
      case measure => simp [intOf]; omega
    · by_cases hlt : i < len
      · obtain rfl : i = 400 := by omega
        have d1 : decide ((400 : Int) < (len : Int)) = true := by rw [decide_eq_true_eq]; omega
        have d2 : decide ((400 : Int) < 400) = false := by decide
        clear hgo hlt
        obtain ⟨al, capl, rfl, hrow⟩ := own_ints HO.out
        have CS := Lib.hid (steps_any L (by omega) al capl wr hrow)
        have HRow := Lib.hid hrow
        clear hrow HO
        go_wp2_with fail
        refine CS.out.mono ?_
        rintro e w2 ⟨va, rfl, ho2, hb2⟩
        obtain ⟨aa, capa, rfl, hra⟩ := own_steps ho2
        have HRA := Lib.hid hra
        have HB2 := Lib.hid (bthen HB.out hb2)
        have CR := Lib.hid (rsteps_any L (by omega) al capl w2 (HRow.out.below hb2))
        clear ho2 hra hb2 CS HRow
        go_wp2_with fail
        refine CR.out.mono ?_
        rintro e w3 ⟨vb, rfl, ho3, hb3⟩
        obtain ⟨ab, capb, rfl, hrb⟩ := own_steps ho3
        have HRB := Lib.hid hrb
        have HRA3 := Lib.hid (HRA.out.below hb3)
        have HB3 := Lib.hid (bthen HB2.out hb3)
        clear ho3 hrb hb3 CR HRA HB2
        go_wp2_with fail
        refine (CA.out _).mono ?_
        rintro e w4 ⟨rfl, hb4⟩
        have HRA4 := Lib.hid (HRA3.out.below hb4)
        have HRB4 := Lib.hid (HRB.out.below hb4)
        have HB4 := Lib.hid (bthen HB3.out hb4)
        clear hb4 HRA3 HRB HB3
        obtain ⟨S, HS⟩ : ∃ R, Hid (stepsFrom L 0 = R) := ⟨_, Lib.hid (Eq.refl _)⟩
        rw [HS.out] at HRA4 HRB4 ⊢
        obtain ⟨N, HN⟩ : ∃ R, Hid (S.length = R) := ⟨_, Lib.hid (Eq.refl _)⟩
        have hNl : N ≤ 400 := by rw [← HN.out, ← HS.out]; exact steps_len L 400 0 (by omega)
        rw [HN.out]
        go_wp2_with fail
        go_loopw [43] (fun i_ wr => ∃ i nq : Nat, i ≤ N ∧ i_ = .int .i64 (i : Int) ∧ Hid (wr = w4.drewN nq)) (fun i _ => N - (intOf i).toNat)
        case atStart => exact ⟨0, 0, by omega, rfl, rfl⟩
        case round =>
          obtain ⟨i, nq0, hi, rfl, HW⟩ := hrel
          have hW := HW.out
          have HBw : Hid (Below w.heap.size w wr) := by show Below _ _ _; rw [hW]; exact below_drewN HB4.out nq0
          have HA5 : Hid (PRow wr aa S) := by show PRow _ _ _; rw [hW]; exact HRA4.out
          have HB5 : Hid (PRow wr ab S) := by show PRow _ _ _; rw [hW]; exact HRB4.out
          clear hW
          by_cases hlt : i < N
          · have d1 : decide ((i : Int) < (N : Int)) = true := by rw [decide_eq_true_eq]; omega
            have hlI : (i : Int) < (N : Int) := by omega
            obtain ⟨b1, rfl, c0, c1⟩ := HA5.out.get i (by rw [HN.out]; exact hlt)
            obtain ⟨b2, rfl, e0, e1⟩ := HB5.out.get i (by rw [HN.out]; exact hlt)
            obtain ⟨p, Hp⟩ : ∃ R, Hid ((sp S i).sym = R) := ⟨_, Lib.hid (Eq.refl _)⟩
            obtain ⟨q, Hq⟩ : ∃ R, Hid ((sp S i).more = R) := ⟨_, Lib.hid (Eq.refl _)⟩
            rw [Hp.out] at c0 e0
            rw [Hq.out] at c1 e1
            go_wp2_with fail
            go_quiet (fail)
            go_wp2_with fail
            go_roundw
            case rel => exact ⟨i + 1, nq0 + nq, by omega, by go_num, by show _ = _; rw [HW.out, World.drewN_drewN]⟩
            case measure => simp [intOf]; omega
          · obtain rfl : i = N := by omega
            have d1 : decide ((i : Int) < (i : Int)) = false := by rw [decide_eq_false_iff_not]; omega
            have hB := HBw.out
            go_wp2_with fail
            go_ret
            exact ⟨rfl, hB⟩
      · obtain rfl : i = len := by omega
        have d1 : decide ((i : Int) < (i : Int)) = false := by rw [decide_eq_false_iff_not]; omega
        clear hgo hlt
        obtain ⟨al, capl, rfl, hrow⟩ := own_ints HO.out
        have CS := Lib.hid (steps_any L (by omega) al capl wr hrow)
        have HRow := Lib.hid hrow
        clear hrow HO
        go_wp2_with fail
        refine CS.out.mono ?_
        rintro e w2 ⟨va, rfl, ho2, hb2⟩
        obtain ⟨aa, capa, rfl, hra⟩ := own_steps ho2
        have HRA := Lib.hid hra
        have HB2 := Lib.hid (bthen HB.out hb2)
        have CR := Lib.hid (rsteps_any L (by omega) al capl w2 (HRow.out.below hb2))
        clear ho2 hra hb2 CS HRow
        go_wp2_with fail
        refine CR.out.mono ?_
        rintro e w3 ⟨vb, rfl, ho3, hb3⟩
        obtain ⟨ab, capb, rfl, hrb⟩ := own_steps ho3
        have HRB := Lib.hid hrb
        have HRA3 := Lib.hid (HRA.out.below hb3)
        have HB3 := Lib.hid (bthen HB2.out hb3)
        clear ho3 hrb hb3 CR HRA HB2
        go_wp2_with fail
        refine (CA.out _).mono ?_
        rintro e w4 ⟨rfl, hb4⟩
        have HRA4 := Lib.hid (HRA3.out.below hb4)
        have HRB4 := Lib.hid (HRB.out.below hb4)
        have HB4 := Lib.hid (bthen HB3.out hb4)
        clear hb4 HRA3 HRB HB3
        obtain ⟨S, HS⟩ : ∃ R, Hid (stepsFrom L 0 = R) := ⟨_, Lib.hid (Eq.refl _)⟩
        rw [HS.out] at HRA4 HRB4 ⊢
        obtain ⟨N, HN⟩ : ∃ R, Hid (S.length = R) := ⟨_, Lib.hid (Eq.refl _)⟩
        have hNl : N ≤ 400 := by rw [← HN.out, ← HS.out]; exact steps_len L 400 0 (by omega)
        rw [HN.out]
        go_wp2_with fail
        go_loopw [43] (fun i_ wr => ∃ i nq : Nat, i ≤ N ∧ i_ = .int .i64 (i : Int) ∧ Hid (wr = w4.drewN nq)) (fun i _ => N - (intOf i).toNat)
        case atStart => exact ⟨0, 0, by omega, rfl, rfl⟩
        case round =>
          obtain ⟨i, nq0, hi, rfl, HW⟩ := hrel
          have hW := HW.out
          have HBw : Hid (Below w.heap.size w wr) := by show Below _ _ _; rw [hW]; exact below_drewN HB4.out nq0
          have HA5 : Hid (PRow wr aa S) := by show PRow _ _ _; rw [hW]; exact HRA4.out
          have HB5 : Hid (PRow wr ab S) := by show PRow _ _ _; rw [hW]; exact HRB4.out
          clear hW
          by_cases hlt : i < N
          · have d1 : decide ((i : Int) < (N : Int)) = true := by rw [decide_eq_true_eq]; omega
            have hlI : (i : Int) < (N : Int) := by omega
            obtain ⟨b1, rfl, c0, c1⟩ := HA5.out.get i (by rw [HN.out]; exact hlt)
            obtain ⟨b2, rfl, e0, e1⟩ := HB5.out.get i (by rw [HN.out]; exact hlt)
            obtain ⟨p, Hp⟩ : ∃ R, Hid ((sp S i).sym = R) := ⟨_, Lib.hid (Eq.refl _)⟩
            obtain ⟨q, Hq⟩ : ∃ R, Hid ((sp S i).more = R) := ⟨_, Lib.hid (Eq.refl _)⟩
            rw [Hp.out] at c0 e0
            rw [Hq.out] at c1 e1
            go_wp2_with fail
            go_quiet (fail)
            go_wp2_with fail
            go_roundw
            case rel => exact ⟨i + 1, nq0 + nq, by omega, by go_num, by show _ = _; rw [HW.out, World.drewN_drewN]⟩
            case measure => simp [intOf]; omega
          · obtain rfl : i = N := by omega
            have d1 : decide ((i : Int) < (i : Int)) = false := by rw [decide_eq_false_iff_not]; omega
            have hB := HBw.out
            go_wp2_with fail
            go_ret
            exact ⟨rfl, hB⟩
end Go.Proofs.Ytjnglahjngiofaa
