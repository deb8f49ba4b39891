/- The library's exchange and turning of stretches of pairs. Conditions: rows of pairs as they stand in memory. -/
import Derived.Test.YtahgeeklenojjaaSortW
namespace Go.Proofs.Ytahgeeklenojjaa
open Go.RowKit
set_option maxRecDepth 100000

set_option maxHeartbeats 16000000 in
theorem swaps_any (fv : Value) (g C N cap a b n : Nat) (hab : a + n ≤ b) (hb : b + n ≤ N) (hN : N ≤ C) (hC : C ≤ 1000000) (x : Nat → Pr) (w : World) (hx : PB w g C x) :
    Calls Try.prog 35 #[.slice (some ⟨g, 0, none⟩) N cap, .int .i64 (a : Int), .int .i64 (b : Int), .int .i64 (n : Int), fv] w fun e w' => e = .returned (.tuple #[]) ∧ Ch1 w w' g ∧ PB w' g C (swN x a b n) := by
  have HX0 : Hid (PB w g C (swN x a b 0)) := by show PB _ _ _ _; rw [swN_zero]; exact hx
  have HG0 := Lib.hid (Ch1.refl w g)
  clear hx
  go_enter Try.func35, Try.ntmps35
  go_wp2_with fail
  go_loopw [10] (fun i_ wr => ∃ i : Nat, i ≤ n ∧ i_ = .int .i64 (i : Int) ∧ Hid (PB wr g C (swN x a b i)) ∧ Hid (Ch1 w wr g)) (fun i _ => n - (intOf i).toNat)
  case atStart => exact ⟨0, by omega, by first | rfl | go_num, HX0, HG0⟩
  case round =>
    clear HX0 HG0
    obtain ⟨i, hi, rfl, HX, HG⟩ := hrel
    by_cases hlt : i < n
    · have d1 : decide ((i : Int) < (n : Int)) = true := by rw [decide_eq_true_eq]; omega
      obtain ⟨p, Hp⟩ : ∃ R, Hid (a + i = R) := ⟨_, Lib.hid (Eq.refl _)⟩
      obtain ⟨q, Hq⟩ : ∃ R, Hid (b + i = R) := ⟨_, Lib.hid (Eq.refl _)⟩
      have hpv := Hp.out
      have hqv := Hq.out
      have w1 : IntKind.i64.wrap ((a : Int) + (i : Int)) = (p : Int) := by rw [IntKind.wrap_i64]; omega
      have w2 : IntKind.i64.wrap ((b : Int) + (i : Int)) = (q : Int) := by rw [IntKind.wrap_i64]; omega
      have hpN : (p : Int) < (N : Int) := by omega
      have hqN : (q : Int) < (N : Int) := by omega
      have hc1 := HX.out.k p (by omega)
      have hs1 := HX.out.s p (by omega)
      have hc2 := HX.out.k q (by omega)
      have hs2 := HX.out.s q (by omega)
      have hf1 := PB.frozen HX.out (p * 2)
      have hf2 := PB.frozen HX.out (p * 2 + 1)
      have hf3 := PB.frozen HX.out (q * 2)
      have hf4 := PB.frozen HX.out (q * 2 + 1)
      have ne1 : ¬ (q * 2 = p * 2) := by omega
      have ne2 : ¬ (q * 2 = p * 2 + 1) := by omega
      have ne3 : ¬ (q * 2 + 1 = p * 2) := by omega
      have ne4 : ¬ (q * 2 + 1 = p * 2 + 1) := by omega
      have ne5 : ¬ (p * 2 = q * 2) := by omega
      have ne6 : ¬ (p * 2 = q * 2 + 1) := by omega
      have ne7 : ¬ (p * 2 + 1 = q * 2) := by omega
      have ne8 : ¬ (p * 2 + 1 = q * 2 + 1) := by omega
      have hS := HX.out.sw p q (by omega) (by omega) (by omega)
      rw [← hpv, ← hqv, swN_succ x a b i (by omega), hpv, hqv] at hS
      obtain ⟨X, HXp⟩ : ∃ R, Hid (swN x a b i p = R) := ⟨_, Lib.hid (Eq.refl _)⟩
      obtain ⟨Y, HYq⟩ : ∃ R, Hid (swN x a b i q = R) := ⟨_, Lib.hid (Eq.refl _)⟩
      rw [HXp.out] at hc1 hs1 hS
      rw [HYq.out] at hc2 hs2 hS
      obtain ⟨k1, a1, n1, c1⟩ := X
      obtain ⟨k2, a2, n2, c2⟩ := Y
      unfold Pr.s at hs1 hs2 hS
      dsimp only at hc1 hs1 hc2 hs2 hS
      have HPS : Hid (∀ m, PB (((((wr.setCell ⟨g, p * 2, none⟩ (.int .i64 k2)).setCell ⟨g, p * 2 + 1, none⟩ (.slice a2 n2 c2)).setCell ⟨g, q * 2, none⟩ (.int .i64 k1)).setCell ⟨g, q * 2 + 1, none⟩ (.slice a1 n1 c1)).drewN m) g C (swN x a b (i + 1))) := fun m => hS
      have HGS : Hid (∀ m, Ch1 w (((((wr.setCell ⟨g, p * 2, none⟩ (.int .i64 k2)).setCell ⟨g, p * 2 + 1, none⟩ (.slice a2 n2 c2)).setCell ⟨g, q * 2, none⟩ (.int .i64 k1)).setCell ⟨g, q * 2 + 1, none⟩ (.slice a1 n1 c1)).drewN m) g) := fun m =>
        ((((HG.out.set _ _).set _ _).set _ _).set _ _).drewN m
      clear hS HX HG hpv hqv HXp HYq
      go_wp2_with fail
      go_region
      all_goals
        go_wp2_with fail
        go_roundw
        case rel => exact ⟨i + 1, by omega, by go_num, HPS.out 1, HGS.out 1⟩
        case measure => simp [intOf]; omega
    · obtain rfl : i = n := by omega
      have d1 : decide ((i : Int) < (i : Int)) = false := by rw [decide_eq_false_iff_not]; omega
      go_wp2_with fail
      (try simp only [Exit.inBlock, Exit.then]); refine bodyPost_end (results_none rfl _ _ _) rfl ?_
      exact ⟨rfl, HG.out, HX.out⟩

theorem rot_none (f : Nat → Pr) (a m : Nat) : rot f a m m = f := by
  funext p
  unfold rot
  (repeat' split) <;> first | (exfalso; omega) | rfl | (congr 1; omega)
set_option maxHeartbeats 16000000 in
theorem rotate_any (fv : Value) (g C N cap a m b : Nat) (ha : a < m) (hm : m < b) (hb : b ≤ N) (hN : N ≤ C) (hC : C ≤ 1000000) (x : Nat → Pr) (w : World) (hx : PB w g C x) :
    Calls Try.prog 34 #[.slice (some ⟨g, 0, none⟩) N cap, .int .i64 (a : Int), .int .i64 (m : Int), .int .i64 (b : Int), fv] w fun e w' => e = .returned (.tuple #[]) ∧ Ch1 w w' g ∧ PB w' g C (rot x a m b) := by
  obtain ⟨i0, hi0⟩ : ∃ i, i = m - a := ⟨_, rfl⟩
  obtain ⟨j0, hj0⟩ : ∃ i, i = b - m := ⟨_, rfl⟩
  have w1 : IntKind.i64.wrap ((m : Int) - (a : Int)) = (i0 : Int) := by rw [IntKind.wrap_i64]; omega
  have w2 : IntKind.i64.wrap ((b : Int) - (m : Int)) = (j0 : Int) := by rw [IntKind.wrap_i64]; omega
  obtain ⟨y0, HX0⟩ : ∃ y, Hid (PB w g C y ∧ rot y (m - i0) m (m + j0) = rot x a m b) := ⟨x, hx, by rw [show m - i0 = a by omega, show m + j0 = b by omega]⟩
  have HG0 := Lib.hid (Ch1.refl w g)
  have hi1 : 1 ≤ i0 := by omega
  have hj1 : 1 ≤ j0 := by omega
  have him : i0 ≤ m := by omega
  have hmj : m + j0 ≤ N := by omega
  clear hx hi0 hj0
  go_enter Try.func34, Try.ntmps34
  go_wp2_with fail
  go_loopw [10, 11] (fun i_ j_ wr => ∃ (i j : Nat) (y : Nat → Pr), 1 ≤ i ∧ 1 ≤ j ∧ i ≤ m ∧ m + j ≤ N ∧ i_ = .int .i64 (i : Int) ∧ j_ = .int .i64 (j : Int) ∧ Hid (PB wr g C y ∧ rot y (m - i) m (m + j) = rot x a m b) ∧ Hid (Ch1 w wr g)) (fun i j _ => (intOf i).toNat + (intOf j).toNat)
  case atStart => exact ⟨i0, j0, y0, hi1, hj1, him, hmj, by first | rfl | go_num, by first | rfl | go_num, HX0, HG0⟩
  case round =>
    clear HX0 HG0 hi1 hj1 him hmj w1 w2
    obtain ⟨i, j, y, hi1, hj1, him, hmj, rfl, rfl, HX, HG⟩ := hrel
    obtain ⟨p, Hp⟩ : ∃ R, Hid (m - i = R) := ⟨_, Lib.hid (Eq.refl _)⟩
    have hpv := Hp.out
    have w1 : IntKind.i64.wrap ((m : Int) - (i : Int)) = (p : Int) := by rw [IntKind.wrap_i64]; omega
    by_cases hne : i = j
    · subst hne
      have d1 : ((i : Int) != (i : Int)) = false := by simp
      have CS := Lib.hid (swaps_any fv g C N cap p m i (by omega) (by omega) hN hC y wr HX.out.1)
      have HE : Hid (swN y p m i = rot x a m b) := by show _ = _; rw [← hpv, rot_even y m i him, HX.out.2]
      rw [HE.out] at CS
      clear hpv HX
      go_wp2_with fail
      refine CS.out.mono ?_
      rintro e w2 ⟨rfl, h1, h2⟩
      have H1 := Lib.hid (HG.out.trans h1)
      have H2 := Lib.hid h2
      clear h1 h2
      go_wp2_with fail
      (try simp only [Exit.inBlock, Exit.then]); refine bodyPost_end (results_none rfl _ _ _) rfl ?_
      exact ⟨rfl, H1.out, H2.out⟩
    · have d1 : ((i : Int) != (j : Int)) = true := by simp; omega
      by_cases hgt : j < i
      · have d2 : decide ((j : Int) < (i : Int)) = true := by rw [decide_eq_true_eq]; omega
        have d3 : decide (j < i) = true := by rw [decide_eq_true_eq]; omega
        obtain ⟨q, Hq⟩ : ∃ R, Hid (i - j = R) := ⟨_, Lib.hid (Eq.refl _)⟩
        have hqv := Hq.out
        have w2 : IntKind.i64.wrap ((i : Int) - (j : Int)) = (q : Int) := by rw [IntKind.wrap_i64]; omega
        have CS := Lib.hid (swaps_any fv g C N cap p m j (by omega) (by omega) hN hC y wr HX.out.1)
        have HE : Hid (rot (swN y p m j) (m - q) m (m + j) = rot x a m b) := by show _ = _; rw [← hpv, ← hqv, rot_left y m i j him hgt, HX.out.2]
        have hq1 : 1 ≤ q := by omega
        have hqm : q ≤ m := by omega
        have hqi : q < i := by omega
        clear hpv hqv HX
        go_wp2_with fail
        refine CS.out.mono ?_
        rintro e w2 ⟨rfl, h1, h2⟩
        have H1 := Lib.hid (HG.out.trans h1)
        have H2 := Lib.hid h2
        clear h1 h2
        go_wp2_with fail
        go_roundw
        case rel => exact ⟨q, j, _, hq1, hj1, hqm, hmj, by first | rfl | go_num, rfl, Lib.hid ⟨H2.out, HE.out⟩, H1⟩
        case measure => simp [intOf]; omega
      · have d2 : decide ((j : Int) < (i : Int)) = false := by rw [decide_eq_false_iff_not]; omega
        have d3 : decide (j < i) = false := by rw [decide_eq_false_iff_not]; omega
        obtain ⟨q, Hq⟩ : ∃ R, Hid (j - i = R) := ⟨_, Lib.hid (Eq.refl _)⟩
        have hqv := Hq.out
        have w2 : IntKind.i64.wrap ((j : Int) - (i : Int)) = (q : Int) := by rw [IntKind.wrap_i64]; omega
        obtain ⟨s, Hs⟩ : ∃ R, Hid (m + j = R) := ⟨_, Lib.hid (Eq.refl _)⟩
        have hsv := Hs.out
        have w3 : IntKind.i64.wrap ((m : Int) + (j : Int)) = (s : Int) := by rw [IntKind.wrap_i64]; omega
        obtain ⟨u, Hu⟩ : ∃ R, Hid (s - i = R) := ⟨_, Lib.hid (Eq.refl _)⟩
        have huv := Hu.out
        have w4 : IntKind.i64.wrap ((s : Int) - (i : Int)) = (u : Int) := by rw [IntKind.wrap_i64]; omega
        have CS := Lib.hid (swaps_any fv g C N cap p u i (by omega) (by omega) hN hC y wr HX.out.1)
        have HE : Hid (rot (swN y p u i) (m - i) m (m + q) = rot x a m b) := by show _ = _; rw [← hpv, ← hqv, ← huv, ← hsv, rot_right y m i j him (by omega), HX.out.2]
        have hq1 : 1 ≤ q := by omega
        have hqm : m + q ≤ N := by omega
        have hqi : q < j := by omega
        clear hpv hqv HX hsv huv
        go_wp2_with fail
        refine CS.out.mono ?_
        rintro e w2 ⟨rfl, h1, h2⟩
        have H1 := Lib.hid (HG.out.trans h1)
        have H2 := Lib.hid h2
        clear h1 h2
        go_wp2_with fail
        go_roundw
        case rel => exact ⟨i, q, _, hi1, hq1, him, hqm, rfl, by first | rfl | go_num, Lib.hid ⟨H2.out, HE.out⟩, H1⟩
        case measure => simp [intOf]; omega
end Go.Proofs.Ytahgeeklenojjaa
