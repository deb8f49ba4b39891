/- The library's stable sort over pairs, walked. Conditions: rows of pairs as they stand in memory, weights within bounds. -/
import Derived.Test.YtahgeeklenojjaaSortC
import Derived.Test.YtahgeeklenojjaaSortD
namespace Go.Proofs.Ytahgeeklenojjaa
open Go.RowKit
set_option maxRecDepth 100000

set_option maxHeartbeats 16000000 in
theorem stable_any (g C N cap : Nat) (hN : N ≤ C) (hC : C ≤ 100000) (x : Nat → Pr) (hk : KB x C) (w : World) (hx : PB w g C x) :
    Calls Try.prog 30 #[.slice (some ⟨g, 0, none⟩) N cap, .int .i64 (N : Int), .func (.func 23) #[] #[]] w fun e w' => e = .returned (.tuple #[]) ∧ Ch1 w w' g ∧
      ∃ y, PB w' g C y ∧ KB y C ∧ seg y 0 N = isort pk (seg x 0 N) ∧ ∀ p, N ≤ p → y p = x p := by
  obtain ⟨x0, HX0⟩ : ∃ x0 : Nat → Pr, Hid (PB w g C x0 ∧ KB x0 C ∧ Done x x0 20 N 0) := ⟨x, hx, hk, fun i hi => by omega, fun _ _ => rfl⟩
  have HG0 := Lib.hid (Ch1.refl w g)
  clear hx hk
  go_enter Try.func30, Try.ntmps30
  go_wp2_with fail
  go_loopw [7, 8] (fun a_ b_ wr => ∃ (k a : Nat) (y : Nat → Pr), a ≤ N ∧ a_ = .int .i64 (a : Int) ∧ b_ = .int .i64 ((a + 20 : Nat) : Int) ∧ Hid (a = k * 20) ∧ Hid (PB wr g C y ∧ KB y C ∧ Done x y 20 N k) ∧ Hid (Ch1 w wr g)) (fun a _ _ => N - (intOf a).toNat)
  case atStart => exact ⟨0, 0, x0, by omega, by first | rfl | go_num, by first | rfl | go_num, rfl, HX0, HG0⟩
  case round =>
    clear HX0 HG0
    obtain ⟨k, a, y, ha, rfl, rfl, Ha, HY, HG⟩ := hrel
    obtain ⟨b, Hb⟩ : ∃ R, Hid (a + 20 = R) := ⟨_, Lib.hid (Eq.refl _)⟩
    rw [Hb.out]
    have hbv := Hb.out
    have Hek : Hid ((k + 1) * 20 = b) := by show _ = _; rw [Nat.succ_mul, ← Ha.out, Hb.out]
    by_cases hle : b ≤ N
    · have d1 : decide ((b : Int) ≤ (N : Int)) = true := by rw [decide_eq_true_eq]; omega
      have d1b : decide (b ≤ N) = true := by rw [decide_eq_true_eq]; omega
      have CI := Lib.hid (ins_any g C N cap a b (by omega) hle hN (by omega) y HY.out.2.1 wr HY.out.1)
      obtain ⟨c, Hc⟩ : ∃ R, Hid (b + 20 = R) := ⟨_, Lib.hid (Eq.refl _)⟩
      have hcv := Hc.out
      have w1 : IntKind.i64.wrap ((b : Int) + 20) = (c : Int) := by rw [IntKind.wrap_i64]; omega
      have hab : a < b := by omega
      clear hbv hcv
      go_wp2_with fail
      refine CI.out.mono ?_
      rintro e w8 ⟨rfl, hg8, y8, hp8, hk8, hs8, ho8⟩
      have HY8 : Hid (PB w8 g C y8 ∧ KB y8 C ∧ Done x y8 20 N (k + 1)) := by
        refine ⟨hp8, hk8, HY.out.2.2.step ?_ ?_⟩
        · rw [← Ha.out, Hek.out]; exact hs8
        · rw [← Ha.out, Hek.out]; exact ho8
      have HG8 := Lib.hid (HG.out.trans hg8)
      clear hg8 hp8 hk8 hs8 ho8 CI HY HG
      go_wp2_with fail
      go_roundw
      case rel => exact ⟨k + 1, b, y8, hle, rfl, by rw [Hc.out], Lib.hid Hek.out.symm, HY8, HG8⟩
      case measure => simp [intOf]; omega
    · have d1 : decide ((b : Int) ≤ (N : Int)) = false := by rw [decide_eq_false_iff_not]; omega
      have d1b : decide (b ≤ N) = false := by rw [decide_eq_false_iff_not]; omega
      have CI := Lib.hid (ins_any g C N cap a N ha (Nat.le_refl _) hN (by omega) y HY.out.2.1 wr HY.out.1)
      clear hbv
      go_wp2_with fail
      refine CI.out.mono ?_
      rintro e w8 ⟨rfl, hg8, y8, hp8, hk8, hs8, ho8⟩
      have HY8 : Hid (PB w8 g C y8 ∧ KB y8 C ∧ Parts x y8 20 N ∧ ∀ p, N ≤ p → y8 p = x p) := by
        refine ⟨hp8, hk8, HY.out.2.2.last (by rw [← Ha.out]; exact ha) (by rw [Hek.out]; omega) ?_ ?_⟩
        · rw [← Ha.out]; exact hs8
        · rw [← Ha.out]; exact ho8
      have HG8 := Lib.hid (HG.out.trans hg8)
      clear hg8 hp8 hk8 hs8 ho8 CI HY HG Hek Ha Hb hle ha d1 d1b
      go_wp2_with fail
      go_loopw [6] (fun z_ wr => ∃ (z : Nat) (y : Nat → Pr), 20 ≤ z ∧ z ≤ 2 * N + 20 ∧ z_ = .int .i64 (z : Int) ∧ Hid (PB wr g C y ∧ KB y C ∧ Parts x y z N ∧ ∀ p, N ≤ p → y p = x p) ∧ Hid (Ch1 w wr g)) (fun z _ => 2 * N + 20 - (intOf z).toNat)
      case atStart => exact ⟨20, y8, by omega, by omega, rfl, HY8, HG8⟩
      case round =>
        clear HY8 HG8
        obtain ⟨z, y, hz1, hz2, rfl, HY, HG⟩ := hrel
        by_cases hzN : z < N
        · have d2 : decide ((z : Int) < (N : Int)) = true := by rw [decide_eq_true_eq]; omega
          have d2b : decide (z < N) = true := by rw [decide_eq_true_eq]; omega
          obtain ⟨z2, Hz2⟩ : ∃ R, Hid (2 * z = R) := ⟨_, Lib.hid (Eq.refl _)⟩
          have hzv := Hz2.out
          have w1 : IntKind.i64.wrap (2 * (z : Int)) = (z2 : Int) := by rw [IntKind.wrap_i64]; omega
          have w2 : IntKind.i64.wrap ((z : Int) * 2) = (z2 : Int) := by rw [IntKind.wrap_i64]; omega
          obtain ⟨y0, HY0⟩ : ∃ y0, Hid (PB wr g C y0 ∧ KB y0 C ∧ Joined x y0 z N 0) := ⟨y, HY.out.1, HY.out.2.1, Joined.begin HY.out.2.2.1 HY.out.2.2.2⟩
          have hz2l : z2 ≤ 200000 := by omega
          have hzz : z < z2 := by omega
          have hzN2 : z2 ≤ 2 * N + 20 := by omega
          clear hzv HY
          go_wp2_with fail
          go_loopw [7, 8] (fun a_ b_ wr => ∃ (k a : Nat) (y : Nat → Pr), a ≤ N ∧ a_ = .int .i64 (a : Int) ∧ b_ = .int .i64 ((a + z2 : Nat) : Int) ∧ Hid (a = 2 * k * z) ∧ Hid (PB wr g C y ∧ KB y C ∧ Joined x y z N k) ∧ Hid (Ch1 w wr g)) (fun a _ _ => N - (intOf a).toNat)
          case atStart => exact ⟨0, 0, y0, by omega, by first | rfl | go_num, by rw [Nat.zero_add], by show 0 = 2 * 0 * z; omega, HY0, HG⟩
          case round =>
            clear HY0 HG
            obtain ⟨k, a, y, ha, rfl, rfl, Ha, HY, HG⟩ := hrel
            obtain ⟨b, Hb⟩ : ∃ R, Hid (a + z2 = R) := ⟨_, Lib.hid (Eq.refl _)⟩
            rw [Hb.out]
            have hbv := Hb.out
            have hzv := Hz2.out
            obtain ⟨m, Hm⟩ : ∃ R, Hid (a + z = R) := ⟨_, Lib.hid (Eq.refl _)⟩
            have hmv := Hm.out
            have w3 : IntKind.i64.wrap ((a : Int) + (z : Int)) = (m : Int) := by rw [IntKind.wrap_i64]; omega
            by_cases hle : b ≤ N
            · have d3 : decide ((b : Int) ≤ (N : Int)) = true := by rw [decide_eq_true_eq]; omega
              have d3b : decide (b ≤ N) = true := by rw [decide_eq_true_eq]; omega
              obtain ⟨s1, s2, _⟩ := HY.out.2.2.two a m b Ha.out hmv.symm hle (by omega) (by omega) (.inl (by omega))
              have CM := Lib.hid (sm_any g C N cap hN (by omega) (b - a) a m b y wr (Nat.le_refl _) (by omega) (by omega) hle HY.out.2.1 HY.out.1 s1 s2)
              obtain ⟨c, Hc⟩ : ∃ R, Hid (b + z2 = R) := ⟨_, Lib.hid (Eq.refl _)⟩
              have hcv := Hc.out
              have w4 : IntKind.i64.wrap ((b : Int) + (z2 : Int)) = (c : Int) := by rw [IntKind.wrap_i64]; omega
              have hab : a < b := by omega
              have Hba : Hid (b = 2 * (k + 1) * z) := by
                show _ = _
                have h := Ha.out
                rw [show 2 * (k + 1) = 2 * k + 1 + 1 by omega, Nat.succ_mul, Nat.succ_mul, ← h]
                omega
              have hbz : b = m + z := by omega
              have Hbz := Lib.hid hbz
              clear hbv hcv hzv hmv s1 s2 hbz
              go_wp2_with fail
              refine CM.out.mono ?_
              rintro e w9 ⟨rfl, hg9, y9, hp9, hk9, hs9, ho9⟩
              have HY9 : Hid (PB w9 g C y9 ∧ KB y9 C ∧ Joined x y9 z N (k + 1)) := ⟨hp9, hk9, HY.out.2.2.step Ha.out Hm.out.symm Hbz.out hle (by omega) hs9 ho9⟩
              have HG9 := Lib.hid (HG.out.trans hg9)
              clear hg9 hp9 hk9 hs9 ho9 CM HY HG
              go_wp2_with fail
              go_roundw
              case rel => exact ⟨k + 1, b, y9, hle, rfl, by rw [Hc.out], Hba, HY9, HG9⟩
              case measure => simp [intOf]; omega
            · have d3 : decide ((b : Int) ≤ (N : Int)) = false := by rw [decide_eq_false_iff_not]; omega
              have d3b : decide (b ≤ N) = false := by rw [decide_eq_false_iff_not]; omega
              by_cases hmN : m < N
              · have d4 : decide ((m : Int) < (N : Int)) = true := by rw [decide_eq_true_eq]; omega
                have d4b : decide (m < N) = true := by rw [decide_eq_true_eq]; omega
                obtain ⟨s1, s2, _⟩ := HY.out.2.2.two a m N Ha.out hmv.symm (Nat.le_refl _) (by omega) (by omega) (.inr rfl)
                have CM := Lib.hid (sm_any g C N cap hN (by omega) (N - a) a m N y wr (Nat.le_refl _) (by omega) (by omega) (Nat.le_refl _) HY.out.2.1 HY.out.1 s1 s2)
                have hNm : N < m + z := by omega
                clear hbv hzv hmv s1 s2
                go_wp2_with fail
                refine CM.out.mono ?_
                rintro e w9 ⟨rfl, hg9, y9, hp9, hk9, hs9, ho9⟩
                have HY9 : Hid (PB w9 g C y9 ∧ KB y9 C ∧ Parts x y9 z2 N ∧ ∀ p, N ≤ p → y9 p = x p) := by
                  rw [← Hz2.out]
                  exact ⟨hp9, hk9, HY.out.2.2.last Ha.out Hm.out.symm hmN hNm hs9 ho9⟩
                have HG9 := Lib.hid (HG.out.trans hg9)
                clear hg9 hp9 hk9 hs9 ho9 CM HY HG
                go_wp2_with fail
                go_roundw
                case rel => exact ⟨z2, y9, by omega, hzN2, rfl, HY9, HG9⟩
                case measure => simp [intOf]; omega
              · have d4 : decide ((m : Int) < (N : Int)) = false := by rw [decide_eq_false_iff_not]; omega
                have d4b : decide (m < N) = false := by rw [decide_eq_false_iff_not]; omega
                have HY9 : Hid (PB wr g C y ∧ KB y C ∧ Parts x y z2 N ∧ ∀ p, N ≤ p → y p = x p) := by
                  rw [← Hz2.out]
                  exact ⟨HY.out.1, HY.out.2.1, HY.out.2.2.none Ha.out Hm.out.symm (by omega) ha⟩
                clear hbv hzv hmv HY
                go_wp2_with fail
                go_roundw
                case rel => exact ⟨z2, y, by omega, hzN2, rfl, HY9, HG⟩
                case measure => simp [intOf]; omega
        · have d2 : decide ((z : Int) < (N : Int)) = false := by rw [decide_eq_false_iff_not]; omega
          have d2b : decide (z < N) = false := by rw [decide_eq_false_iff_not]; omega
          go_wp2_with fail
          (try simp only [Exit.inBlock, Exit.then]); refine bodyPost_end (results_none rfl _ _ _) rfl ?_
          refine ⟨rfl, HG.out, y, HY.out.1, HY.out.2.1, ?_, HY.out.2.2.2⟩
          by_cases h0 : 0 < N
          · exact HY.out.2.2.1.all h0 (by omega)
          · obtain rfl : N = 0 := by omega
            rfl

theorem stable_nil (w : World) : Calls Try.prog 30 #[.slice none 0 0, .int .i64 0, .func (.func 23) #[] #[]] w fun e w' => e = .returned (.tuple #[]) ∧ w = w' := by
  have CI : Hid (∀ W, Calls Try.prog 32 #[.slice none 0 0, .int .i64 0, .int .i64 0, .func (.func 23) #[] #[]] W fun e w' => e = .returned (.tuple #[]) ∧ W = w') := by
    intro W
    go_enter Try.func32, Try.ntmps32
    go_wp2_with fail
    go_loopw [8] (fun i_ wr => i_ = .int .i64 1 ∧ wr = W) (fun i _ => 0)
    case atStart => exact ⟨rfl, by first | rfl | trivial⟩
    case round =>
      obtain ⟨rfl, hw⟩ := hrel
      have hw2 := hw.symm
      subst hw2
      go_wp2_with fail
      (try simp only [Exit.inBlock, Exit.then]); refine bodyPost_end (results_none rfl _ _ _) rfl ?_
      exact ⟨rfl, rfl⟩
  go_enter Try.func30, Try.ntmps30
  go_wp2_with fail
  go_loopw [7, 8] (fun a_ b_ wr => a_ = .int .i64 0 ∧ b_ = .int .i64 20 ∧ wr = w) (fun a _ _ => 0)
  case atStart => exact ⟨rfl, rfl, by first | rfl | trivial⟩
  case round =>
    obtain ⟨rfl, rfl, hw⟩ := hrel
    have hw2 := hw.symm
    subst hw2
    go_wp2_with fail
    refine (CI.out _).mono ?_
    rintro e w8 ⟨rfl, rfl⟩
    go_wp2_with fail
    go_loopw [6] (fun z_ wr => z_ = .int .i64 20 ∧ wr = w) (fun z _ => 0)
    case atStart => exact ⟨rfl, by first | rfl | trivial⟩
    case round =>
      obtain ⟨rfl, hw⟩ := hrel
      have hw2 := hw.symm
      subst hw2
      go_wp2_with fail
      (try simp only [Exit.inBlock, Exit.then]); refine bodyPost_end (results_none rfl _ _ _) rfl ?_
      exact ⟨rfl, rfl⟩
/-- slices.SortStableFunc. -/
theorem sort_any (g C N cap : Nat) (hN : N ≤ C) (hC : C ≤ 100000) (x : Nat → Pr) (hk : KB x C) (w : World) (hx : PB w g C x) :
    Calls Try.prog 22 #[.slice (some ⟨g, 0, none⟩) N cap, .func (.func 23) #[] #[]] w fun e w' => e = .returned (.tuple #[]) ∧ Ch1 w w' g ∧
      ∃ y, PB w' g C y ∧ KB y C ∧ seg y 0 N = isort pk (seg x 0 N) ∧ ∀ p, N ≤ p → y p = x p := by
  have CS := Lib.hid (stable_any g C N cap hN hC x hk w hx)
  clear hx hk
  go_enter Try.func22, Try.ntmps22
  go_wp2_with fail
  refine CS.out.mono ?_
  rintro e w1 ⟨rfl, h⟩
  have H := Lib.hid h
  clear h
  go_wp2_with fail
  (try simp only [Exit.inBlock, Exit.then]); refine bodyPost_end (results_none rfl _ _ _) rfl ?_
  exact ⟨rfl, H.out⟩
theorem sort_nil (w : World) : Calls Try.prog 22 #[.slice none 0 0, .func (.func 23) #[] #[]] w fun e w' => e = .returned (.tuple #[]) ∧ w = w' := by
  have CS := Lib.hid (stable_nil w)
  go_enter Try.func22, Try.ntmps22
  go_wp2_with fail
  refine CS.out.mono ?_
  rintro e w1 ⟨rfl, rfl⟩
  go_wp2_with fail
  (try simp only [Exit.inBlock, Exit.then]); refine bodyPost_end (results_none rfl _ _ _) rfl ?_
  exact ⟨rfl, rfl⟩
end Go.Proofs.Ytahgeeklenojjaa
