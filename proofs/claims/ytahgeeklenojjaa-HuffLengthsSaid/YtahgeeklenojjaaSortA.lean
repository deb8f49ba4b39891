/- The library's insertion sort over pairs. Conditions: rows of pairs as they stand in memory, weights within bounds. -/
import Derived.Test.YtahgeeklenojjaaSortW
namespace Go.Proofs.Ytahgeeklenojjaa
open Go.RowKit
set_option maxRecDepth 100000

def pk (x : Pr) : Int := x.k
/-- The thing at i has come to j. -/
theorem mvL_seg (y : Nat → Pr) (a i j : Nat) (ha : a ≤ j) (hj : j ≤ i) (hs : Srt pk (seg y a i)) (h1 : a < j → (y (j - 1)).k ≤ (y i).k) (h2 : ∀ p, j ≤ p → p < i → (y i).k < (y p).k) : seg (mvL y i j) a (i + 1) = mrg pk (seg y a i) [y i] := by
  have e1 : seg (mvL y i j) a j = seg y a j := seg_like _ _ _ _ _ _ rfl fun k hk => by unfold mvL; rw [if_neg (by omega), if_neg (by omega)]
  have e2 : seg (mvL y i j) j (j + 1) = [y i] := by rw [seg_one]; unfold mvL; rw [if_pos rfl]
  have e3 : seg (mvL y i j) (j + 1) (i + 1) = seg y j i := seg_like _ _ _ _ _ _ (by omega) fun k hk => by
    unfold mvL
    rw [if_neg (by omega), if_pos (by omega)]
    congr 1
    omega
  rw [seg_app _ a j (i + 1) ha (by omega), seg_app _ j (j + 1) (i + 1) (by omega) (by omega), e1, e2, e3, seg_app y a j i ha hj]
  refine (mrg_single pk _ _ _ (fun z hz => ?_) (fun z hz => ?_)).symm
  · obtain ⟨p, h3, h4, rfl⟩ := mem_seg _ _ _ _ hz
    have h5 := h1 (by omega)
    by_cases e : p = j - 1
    · rw [e]; exact h5
    · have := (seg_srt pk y a i).1 hs p (j - 1) h3 (by omega) (by omega)
      exact Int.le_trans this h5
  · obtain ⟨p, h3, h4, rfl⟩ := mem_seg _ _ _ _ hz
    exact h2 p h3 h4
theorem KB.mvL {x : Nat → Pr} {C : Nat} (h : KB x C) (i j : Nat) (hi : i < C) : KB (Go.Proofs.Ytahgeeklenojjaa.mvL x i j) C := fun p hp => by
  unfold Go.Proofs.Ytahgeeklenojjaa.mvL
  split
  · exact h i hi
  · split
    · exact h (p - 1) (by omega)
    · exact h p hp

set_option maxHeartbeats 16000000 in
theorem ins_any (g C N cap a b : Nat) (hab : a ≤ b) (hb : b ≤ N) (hN : N ≤ C) (hC : C ≤ 1000000) (x : Nat → Pr) (hk : KB x C) (w : World) (hx : PB w g C x) :
    Calls Try.prog 32 #[.slice (some ⟨g, 0, none⟩) N cap, .int .i64 (a : Int), .int .i64 (b : Int), .func (.func 23) #[] #[]] w fun e w' => e = .returned (.tuple #[]) ∧ Ch1 w w' g ∧
      ∃ y, PB w' g C y ∧ KB y C ∧ seg y a b = isort pk (seg x a b) ∧ ∀ p, (p < a ∨ b ≤ p) → y p = x p := by
  obtain ⟨x0, HX0⟩ : ∃ x0 : Nat → Pr, Hid (PB w g C x0 ∧ KB x0 C ∧ seg x0 a (a + 1) = isort pk (seg x a (a + 1)) ∧ ∀ p, (p < a ∨ a + 1 ≤ p) → x0 p = x p) := ⟨x, hx, hk, by rw [srt_isort]; rw [seg_one]; exact List.pairwise_cons.2 ⟨fun z hz => (by cases hz), List.Pairwise.nil⟩, fun _ _ => rfl⟩
  have HG0 := Lib.hid (Ch1.refl w g)
  have hx0 := Lib.hid hx
  have hk0 := Lib.hid hk
  clear hx hk
  go_enter Try.func32, Try.ntmps32
  go_wp2_with fail
  go_loopw [8] (fun i_ wr => ∃ (i : Nat) (y : Nat → Pr), a + 1 ≤ i ∧ (i ≤ b ∨ i = a + 1) ∧ i_ = .int .i64 (i : Int) ∧ Hid (PB wr g C y ∧ KB y C ∧ seg y a i = isort pk (seg x a i) ∧ ∀ p, (p < a ∨ i ≤ p) → y p = x p) ∧ Hid (Ch1 w wr g)) (fun i _ => b - (intOf i).toNat)
  case atStart => exact ⟨a + 1, x0, by omega, .inr rfl, by go_num, HX0, HG0⟩
  case round =>
    clear HX0 HG0
    obtain ⟨i, y, hi1, hi2, rfl, HY, HG⟩ := hrel
    by_cases hlt : i < b
    · have d1 : decide ((i : Int) < (b : Int)) = true := by rw [decide_eq_true_eq]; omega
      have HM0 : Hid (PB wr g C (mvL y i i) ∧ ∀ p, i ≤ p → p < i → (y i).k < (y p).k) := ⟨by rw [mvL_same]; exact HY.out.1, fun p h1 h2 => by omega⟩
      go_wp2_with fail
      go_loopw [9] (fun j_ wx => ∃ j : Nat, a ≤ j ∧ j ≤ i ∧ j_ = .int .i64 (j : Int) ∧ Hid (PB wx g C (mvL y i j) ∧ ∀ p, j ≤ p → p < i → (y i).k < (y p).k) ∧ Hid (Ch1 w wx g)) (fun j _ => (intOf j).toNat)
      case atStart => exact ⟨i, by omega, Nat.le_refl _, rfl, HM0, HG⟩
      case round =>
        clear HM0 HG
        obtain ⟨j, hj1, hj2, rfl, HM, HG⟩ := hrel
        have Hfin : Hid ((a < j → (y (j - 1)).k ≤ (y i).k) → KB (mvL y i j) C ∧ seg (mvL y i j) a (i + 1) = isort pk (seg x a (i + 1)) ∧ ∀ p, (p < a ∨ i + 1 ≤ p) → mvL y i j p = x p) := by
          intro h1
          obtain ⟨hy1, hy2, hy3, hy4⟩ := HY.out
          refine ⟨hy2.mvL i j (by omega), ?_, ?_⟩
          · have hs := isort_srt pk (seg x a i)
            rw [← hy3] at hs
            rw [mvL_seg y a i j hj1 hj2 hs h1 HM.out.2, seg_app x a i (i + 1) (by omega) (by omega), seg_one, isort_snoc, hy3, hy4 i (.inr (Nat.le_refl _))]
          · intro p hp
            unfold mvL
            rw [if_neg (by omega), if_neg (by omega)]
            exact hy4 p (by omega)
        by_cases haj : a < j
        · obtain ⟨q, rfl⟩ : ∃ q, j = q + 1 := ⟨j - 1, by omega⟩
          obtain ⟨j, Hj⟩ : ∃ R, Hid (q + 1 = R) := ⟨_, Lib.hid (Eq.refl _)⟩
          rw [Hj.out] at HM hj2 haj Hfin ⊢
          have d2 : decide ((a : Int) < (j : Int)) = true := by rw [decide_eq_true_eq]; omega
          have hjv := Hj.out
          have w1 : IntKind.i64.wrap ((j : Int) - 1) = (q : Int) := by rw [IntKind.wrap_i64]; omega
          have hjN : (j : Int) < (N : Int) := by omega
          have hqN : (q : Int) < (N : Int) := by omega
          have hc1 := HM.out.1.k j (by omega)
          have hs1 := HM.out.1.s j (by omega)
          have hc2 := HM.out.1.k q (by omega)
          have hs2 := HM.out.1.s q (by omega)
          have ej : mvL y i j j = y i := if_pos rfl
          have eq : mvL y i j q = y q := by unfold mvL; rw [if_neg (by omega), if_neg (by omega)]
          rw [ej] at hc1 hs1
          rw [eq] at hc2 hs2
          have hb1 := HY.out.2.1 i (by omega)
          have hb2 := HY.out.2.1 q (by omega)
          obtain ⟨X, HX⟩ : ∃ R, Hid (y i = R) := ⟨_, Lib.hid (Eq.refl _)⟩
          obtain ⟨Y, HYq⟩ : ∃ R, Hid (y q = R) := ⟨_, Lib.hid (Eq.refl _)⟩
          rw [HX.out] at hc1 hs1 hb1
          rw [HYq.out] at hc2 hs2 hb2
          obtain ⟨k1, a1, n1, c1⟩ := X
          obtain ⟨k2, a2, n2, c2⟩ := Y
          unfold Pr.s at hs1 hs2
          dsimp only at hc1 hs1 hb1 hc2 hs2 hb2
          have CC := Lib.hid (fun W => weigh_any k1 k2 (.slice a1 n1 c1) (.slice a2 n2 c2) hb1 hb2 W)
          clear hjv ej eq
          by_cases hk : k1 < k2
          · have d3 : decide (k1 - k2 < 0) = true := by rw [decide_eq_true_eq]; omega
            have hgl : g < wr.drew.heap.size := PB.lt HM.out.1
            have hc1d : wr.drew.cell? ⟨g, j * 2, none⟩ = some (.int .i64 k1) := hc1
            have hs1d : wr.drew.cell? ⟨g, j * 2 + 1, none⟩ = some (.slice a1 n1 c1) := hs1
            have hc2d : wr.drew.cell? ⟨g, q * 2, none⟩ = some (.int .i64 k2) := hc2
            have hs2d : wr.drew.cell? ⟨g, q * 2 + 1, none⟩ = some (.slice a2 n2 c2) := hs2
            go_wp2_with fail
            go_region_held3 (fun W => W.cell? ⟨g, j * 2, none⟩ = some (.int .i64 k1) ∧ W.cell? ⟨g, j * 2 + 1, none⟩ = some (.slice a1 n1 c1) ∧ W.cell? ⟨g, q * 2, none⟩ = some (.int .i64 k2) ∧ W.cell? ⟨g, q * 2 + 1, none⟩ = some (.slice a2 n2 c2))
              (first | exact ⟨by assumption, by assumption, by assumption, by assumption⟩ | go_keep)
              (first
                | (go_at_call 23; refine (CC.out _).mono ?_; rintro e w8 ⟨rfl, hb8⟩; have hP8 : PB w8 g C (mvL y i j) := (show PB wr.drew g C (mvL y i j) from HM.out.1).below hb8 hgl; have hG8 : Ch1 w w8 g := Ch1.below HG.out.drew hb8; have q1 := (hb8.cell (p := ⟨g, j * 2, none⟩) hgl).trans hc1d; have q2 := (hb8.cell (p := ⟨g, j * 2 + 1, none⟩) hgl).trans hs1d; have q3 := (hb8.cell (p := ⟨g, q * 2, none⟩) hgl).trans hc2d; have q4 := (hb8.cell (p := ⟨g, q * 2 + 1, none⟩) hgl).trans hs2d))
            rename_i hh
            have HP8 := Lib.hid hP8
            have HG8 := Lib.hid hG8
            have hf1 := PB.frozen HP8.out (j * 2)
            have hf2 := PB.frozen HP8.out (j * 2 + 1)
            have hf3 := PB.frozen HP8.out (q * 2)
            have hf4 := PB.frozen HP8.out (q * 2 + 1)
            clear hh hb8 hP8 hG8 hgl hc1 hs1 hc2 hs2 hc1d hs1d hc2d hs2d CC HG
            have HMlow := Lib.hid HM.out.2
            clear HM
            have hjv2 := Hj.out
            have ne1 : ¬ (q * 2 = j * 2) := by omega
            have ne2 : ¬ (q * 2 = j * 2 + 1) := by omega
            have ne3 : ¬ (q * 2 + 1 = j * 2) := by omega
            have ne4 : ¬ (q * 2 + 1 = j * 2 + 1) := by omega
            have ne5 : ¬ (j * 2 = q * 2) := by omega
            have ne6 : ¬ (j * 2 = q * 2 + 1) := by omega
            have ne7 : ¬ (j * 2 + 1 = q * 2) := by omega
            have ne8 : ¬ (j * 2 + 1 = q * 2 + 1) := by omega
            have hPS : ∀ m, PB (((((w8.setCell ⟨g, j * 2, none⟩ (.int .i64 k2)).setCell ⟨g, j * 2 + 1, none⟩ (.slice a2 n2 c2)).setCell ⟨g, q * 2, none⟩ (.int .i64 k1)).setCell ⟨g, q * 2 + 1, none⟩ (.slice a1 n1 c1)).drewN m) g C (mvL y i q) := by
              intro m
              have h := HP8.out.sw j q (by omega) (by omega) (by omega)
              rw [← hjv2, mvL_sw y i q (by omega)] at h
              have e1 : mvL y i (q + 1) (q + 1) = ⟨k1, a1, n1, c1⟩ := (if_pos rfl).trans HX.out
              have e2 : mvL y i (q + 1) q = ⟨k2, a2, n2, c2⟩ := by
                rw [← HYq.out]
                unfold mvL
                rw [if_neg (by omega), if_neg (by omega)]
              rw [e1, e2, hjv2] at h
              exact h
            have hGS : ∀ m, Ch1 w (((((w8.setCell ⟨g, j * 2, none⟩ (.int .i64 k2)).setCell ⟨g, j * 2 + 1, none⟩ (.slice a2 n2 c2)).setCell ⟨g, q * 2, none⟩ (.int .i64 k1)).setCell ⟨g, q * 2 + 1, none⟩ (.slice a1 n1 c1)).drewN m) g := fun m =>
              ((((HG8.out.set _ _).set _ _).set _ _).set _ _).drewN m
            have hlow : ∀ p, q ≤ p → p < i → (y i).k < (y p).k := fun p h1 h2 => by
              by_cases e : p = q
              · rw [e, HX.out, HYq.out]; exact hk
              · exact HMlow.out p (by omega) h2
            have HPS := Lib.hid hPS
            have HGS := Lib.hid hGS
            have Hlow := Lib.hid hlow
            have haq : a ≤ q := by omega
            have hqi : q ≤ i := by omega
            clear hjv2 hPS hGS hlow HP8 HG8
            go_wp2_with fail
            go_region
            all_goals
              go_wp2_with fail
              go_roundw
              case rel => exact ⟨q, haq, hqi, by first | rfl | go_num, Lib.hid ⟨HPS.out 1, Hlow.out⟩, HGS.out 1⟩
              case measure => simp [intOf]; have := Hj.out; omega
          · have d3 : decide (k1 - k2 < 0) = false := by rw [decide_eq_false_iff_not]; omega
            have hfin := Hfin.out (fun _ => by
              have e : j - 1 = q := by have := Hj.out; omega
              rw [e, HX.out, HYq.out]
              show k2 ≤ k1
              omega)
            have HFin := Lib.hid hfin
            clear hfin
            have hgl : g < wr.drew.heap.size := PB.lt HM.out.1
            have hc1d : wr.drew.cell? ⟨g, j * 2, none⟩ = some (.int .i64 k1) := hc1
            have hs1d : wr.drew.cell? ⟨g, j * 2 + 1, none⟩ = some (.slice a1 n1 c1) := hs1
            have hc2d : wr.drew.cell? ⟨g, q * 2, none⟩ = some (.int .i64 k2) := hc2
            have hs2d : wr.drew.cell? ⟨g, q * 2 + 1, none⟩ = some (.slice a2 n2 c2) := hs2
            go_wp2_with fail
            go_region_held3 (fun W => W.cell? ⟨g, j * 2, none⟩ = some (.int .i64 k1) ∧ W.cell? ⟨g, j * 2 + 1, none⟩ = some (.slice a1 n1 c1) ∧ W.cell? ⟨g, q * 2, none⟩ = some (.int .i64 k2) ∧ W.cell? ⟨g, q * 2 + 1, none⟩ = some (.slice a2 n2 c2))
              (first | exact ⟨by assumption, by assumption, by assumption, by assumption⟩ | go_keep)
              (first
                | (go_at_call 23; refine (CC.out _).mono ?_; rintro e w8 ⟨rfl, hb8⟩; have hP8 : PB w8 g C (mvL y i j) := (show PB wr.drew g C (mvL y i j) from HM.out.1).below hb8 hgl; have hG8 : Ch1 w w8 g := Ch1.below HG.out.drew hb8; have q1 := (hb8.cell (p := ⟨g, j * 2, none⟩) hgl).trans hc1d; have q2 := (hb8.cell (p := ⟨g, j * 2 + 1, none⟩) hgl).trans hs1d; have q3 := (hb8.cell (p := ⟨g, q * 2, none⟩) hgl).trans hc2d; have q4 := (hb8.cell (p := ⟨g, q * 2 + 1, none⟩) hgl).trans hs2d))
            rename_i hh
            have HP8 := Lib.hid hP8
            have HG8 := Lib.hid hG8
            clear hh hb8 hP8 hG8 hgl hc1 hs1 hc2 hs2 hc1d hs1d hc2d hs2d CC HG HM Hfin
            go_wp2_with fail
            go_roundw
            case rel => exact ⟨i + 1, mvL y i j, by omega, .inl (by omega), by go_num, Lib.hid ⟨HP8.out, HFin.out⟩, HG8.out⟩
            case measure => simp [intOf]; omega
        · obtain rfl : a = j := by omega
          have d2 : decide ((a : Int) < (a : Int)) = false := by rw [decide_eq_false_iff_not]; omega
          have HFin := Lib.hid (Hfin.out fun h => by omega)
          have HPd := Lib.hid (fun n => (show PB (wr.drewN n) g C (mvL y i a) from HM.out.1))
          have HGd := Lib.hid (fun n => HG.out.drewN n)
          clear HM HG Hfin
          go_wp2_with fail
          go_region
          all_goals
            go_wp2_with fail
            go_roundw
            case rel => exact ⟨i + 1, mvL y i a, by omega, .inl (by omega), by go_num, Lib.hid ⟨HPd.out 1, HFin.out⟩, HGd.out 1⟩
            case measure => simp [intOf]; omega
    · have d1 : decide ((i : Int) < (b : Int)) = false := by rw [decide_eq_false_iff_not]; omega
      go_wp2_with fail
      (try simp only [Exit.inBlock, Exit.then]); refine bodyPost_end (results_none rfl _ _ _) rfl ?_
      refine ⟨rfl, HG.out, y, HY.out.1, HY.out.2.1, ?_, fun p hp => ?_⟩
      rotate_left
      · by_cases e : p < a ∨ i ≤ p
        · exact HY.out.2.2.2 p e
        · obtain rfl : p = a := by omega
          have h := HY.out.2.2.1
          rw [show i = p + 1 by omega, seg_one, seg_one] at h
          have h2 : isort pk [x p] = [x p] := srt_isort pk _ (List.pairwise_cons.2 ⟨fun z hz => (by cases hz), List.Pairwise.nil⟩)
          rw [h2] at h
          injection h
      rcases hi2 with h | h
      · obtain rfl : i = b := by omega
        exact HY.out.2.2.1
      · by_cases e : i = b
        · rw [← e]; exact HY.out.2.2.1
        · rw [seg_self y a b (by omega), seg_self x a b (by omega)]; rfl
end Go.Proofs.Ytahgeeklenojjaa
