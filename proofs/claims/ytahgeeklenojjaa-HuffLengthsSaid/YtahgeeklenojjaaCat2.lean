/- slices.Concat of rows of ints. Conditions: at most ten thousand each. -/
import Derived.Test.YtahgeeklenojjaaConcat
namespace Go.Proofs.Ytahgeeklenojjaa
open Go.RowKit
set_option maxRecDepth 100000

theorem totN_le2 (ns : Nat → Nat) (K : Nat) (h : ∀ j, j < K → ns j ≤ 10000) : ∀ j, j ≤ K → totN ns j ≤ 10000 * j := by
  intro j
  induction j with
  | zero => intro _; exact Nat.zero_le _
  | succ j ih =>
    intro hj
    have h1 := ih (by omega)
    have h2 := h j (by omega)
    show totN ns j + ns j ≤ _
    omega
theorem grow_nil2 (n : Nat) (h1 : 1 ≤ n) (h2 : n ≤ 100000) (w : World) :
    Calls Try.prog 31 #[.slice none 0 0, .int .i64 (n : Int)] w fun e w' => ∃ g cap, e = .returned (.slice (some ⟨g, 0, none⟩) 0 cap) ∧ w'.ownsRow w.heap.size 3 1 (.slice (some ⟨g, 0, none⟩) 0 cap) 0 [] ∧ Below w.heap.size w w' := by
  have d0 : decide ((n : Int) < 0) = false := by rw [decide_eq_false_iff_not]; omega
  have d1 : decide ((0 : Int) < (n : Int)) = true := by rw [decide_eq_true_eq]; omega
  have d1b : decide (0 < n) = true := by rw [decide_eq_true_eq]; omega
  have hw : IntKind.i64.wrap (n : Int) = (n : Int) := IntWalk.i64_in _ (by omega)
  have hn0 : w.ownsRow w.heap.size 3 1 (.slice none 0 0) 0 [] := World.ownsRow_nil w _ _ _
  go_enter Try.func31, Try.ntmps31
  go_wp2_with (at_builtin; go_must (refine wpList_append_zeros rfl (.tmp 20) (.tmp 21) rfl w.heap.size (.slice none 0 0) 0 [] hn0 rfl n rfl h1 ?_ (Nat.le_refl _) ?_; omega; intro v w1 ho hg; rw [Nat.zero_add] at ho; obtain ⟨g, cap, rfl, hgb, _⟩ := World.ownsRow.form ho (by omega); have HO := Lib.hid ho; have Hg := Lib.hid hg; clear ho hg hn0))
  go_ret
  refine ⟨g, cap, rfl, ?_, ⟨Hg.out.os, Hg.out.tape, Hg.out.output, Hg.out.size, fun j hj => Hg.out.block j hj (fun e => by cases e)⟩⟩
  rcases HO.out.2 with ⟨h, _⟩ | ⟨g', cap', cur, h, a1, a2, a3, a4, a5, _⟩
  · cases h
  · injection h with h3 h4 h5
    injection h3 with h3
    injection h3 with h3
    subst h3 h5
    exact ⟨rfl, .inr ⟨g, cap, cur, rfl, a1, a2, Nat.zero_le _, a4, a5, rfl⟩⟩

set_option maxHeartbeats 4000000 in
theorem concat2_any (K : Nat) (h1 : 1 ≤ K) (h2 : K ≤ 8) (ns gs : Nat → Nat) (cs : Nat → Nat) (vs : Nat → Nat → Int) (m : Nat → Int) (hns : ∀ j, j < K → 1 ≤ ns j ∧ ns j ≤ 10000) (hm : ∀ j, j < K → ∀ i, i < ns j → m (totN ns j + i) = vs j i) (htot : totN ns K ≤ 100000) (G off cap : Nat) (w : World)
    (hG : G < w.heap.size) (hcell : ∀ j, j < K → w.cell? ⟨G, off + j, none⟩ = some (.slice (some ⟨gs j, 0, none⟩) (ns j) (cs j))) (hrow : ∀ j, j < K → IRow w (some ⟨gs j, 0, none⟩) (ns j) (vs j)) :
    Calls Try.prog 24 #[.slice (some ⟨G, off, none⟩) K cap] w fun e w' => ∃ g cap', e = .returned (.slice (some ⟨g, 0, none⟩) (totN ns K) cap') ∧ w'.ownsRow w.heap.size 3 1 (.slice (some ⟨g, 0, none⟩) (totN ns K) cap') (totN ns K) (icells (totN ns K) m) ∧ Below w.heap.size w w' := by
  have hle := totN_le2 ns K (fun j hj => (hns j hj).2)
  have hpos : 1 ≤ totN ns K := by
    have h3 := (hns 0 (by omega)).1
    have : ∀ j, 1 ≤ j → j ≤ K → 1 ≤ totN ns j := by
      intro j
      induction j with
      | zero => intro h _; omega
      | succ j ih =>
        intro _ hj
        by_cases h0 : j = 0
        · subst h0; show 1 ≤ 0 + ns 0; omega
        · have := ih (by omega) (by omega)
          show 1 ≤ totN ns j + ns j
          omega
    exact this K h1 (Nat.le_refl _)
  have CG := Lib.hid (fun W => grow_nil2 (totN ns K) hpos htot W)
  have Hle := Lib.hid hle
  have Hns := Lib.hid hns
  have Hm := Lib.hid hm
  have Hcell := Lib.hid hcell
  have Hrow := Lib.hid hrow
  obtain ⟨T, HT⟩ : ∃ T, Hid (totN ns K = T) := ⟨_, Lib.hid (Eq.refl _)⟩
  rw [HT.out] at CG htot hpos ⊢
  obtain ⟨B, HBs⟩ : ∃ B, Hid (w.heap.size = B) := ⟨_, Lib.hid (Eq.refl _)⟩
  rw [HBs.out]
  clear hle hns hm hcell hrow
  go_enter Try.func24, Try.ntmps24
  go_wp2_with fail
  go_loopw [3, 11] (fun z_ j_ wr => ∃ j z : Nat, j ≤ K ∧ z_ = .int .i64 (z : Int) ∧ j_ = .int .i64 (j : Int) ∧ Hid (totN ns j = z) ∧ wr = w) (fun _ j _ => K - (intOf j).toNat)
  case atStart => exact ⟨0, 0, by omega, rfl, rfl, rfl, rfl⟩
  case round =>
    obtain ⟨j, z, hj, rfl, rfl, Hz, hwr⟩ := hrel
    have hwr2 := hwr.symm
    subst hwr2
    clear hwr
    have hzl : z ≤ 80000 := by have := Hle.out j hj; rw [Hz.out] at this; omega
    by_cases hlt : j < K
    · have dk : decide ((j : Int) < (K : Int)) = true := by rw [decide_eq_true_eq]; omega
      have hc := Hcell.out j hlt
      have hn := Hns.out j hlt
      obtain ⟨N, HN⟩ : ∃ N, Hid (ns j = N) := ⟨_, Lib.hid (Eq.refl _)⟩
      obtain ⟨cq, Hcq⟩ : ∃ N, Hid (cs j = N) := ⟨_, Lib.hid (Eq.refl _)⟩
      rw [Hcq.out] at hc
      rw [HN.out] at hn hc
      have hw : IntKind.i64.wrap ((z : Int) + (N : Int)) = (z : Int) + (N : Int) := IntWalk.i64_in _ (by omega)
      have dn : decide ((z : Int) + (N : Int) < 0) = false := by rw [decide_eq_false_iff_not]; omega
      have Hz2 : Hid (totN ns (j + 1) = z + N) := by show totN ns j + ns j = _; rw [Hz.out, HN.out]
      go_wp2_with fail
      go_roundw
      case rel => exact ⟨j + 1, z + N, by omega, by go_num, by go_num, Hz2, (by first | rfl | trivial)⟩
      case measure => simp [intOf]; omega
    · obtain rfl : j = K := by omega
      have dk : decide ((j : Int) < (j : Int)) = false := by rw [decide_eq_false_iff_not]; omega
      obtain rfl : z = T := by rw [← Hz.out]; exact HT.out
      go_wp2_with fail
      refine (CG.out _).mono ?_
      rintro e w1 ⟨g, cp, rfl, ho, hb⟩
      have ho0 : w.ownsRow w.heap.size 3 1 (.slice none 0 0) 0 [] := World.ownsRow_nil _ _ _ _
      have HO := Lib.hid ho
      have HB := Lib.hid hb
      rw [HBs.out] at HO HB
      have HGB : G < B := by rw [← HBs.out]; exact hG
      have HO0 : Hid (w1.ownsRow B 3 1 (.slice (some ⟨g, 0, none⟩) (totN ns 0) cp) (totN ns 0) (icells (totN ns 0) m)) := HO.out
      clear ho hb ho0 HO
      go_wp2_with fail
      go_loopw [6, 27] (fun v_ j_ ws => ∃ (k g cp : Nat), k ≤ j ∧ v_ = .slice (some ⟨g, 0, none⟩) (totN ns k) cp ∧ j_ = .int .i64 (k : Int) ∧ Hid (ws.ownsRow B 3 1 (.slice (some ⟨g, 0, none⟩) (totN ns k) cp) (totN ns k) (icells (totN ns k) m)) ∧ Hid (Below B w ws)) (fun _ k _ => j - (intOf k).toNat)
      case atStart => exact ⟨0, g, cp, by omega, rfl, rfl, HO0, HB⟩
      case round =>
        clear HO0 HB
        obtain ⟨k, g2, cp2, hk, rfl, rfl, HO, HB⟩ := hrel
        by_cases hlt2 : k < j
        · have dk2 : decide ((k : Int) < (j : Int)) = true := by rw [decide_eq_true_eq]; omega
          have hc := (HB.out.cell (p := ⟨G, off + k, none⟩) HGB).trans (Hcell.out k hlt2)
          have hrw := Hrow.out k hlt2
          have hn := Hns.out k hlt2
          have htk : totN ns (k + 1) ≤ 80000 := by have := Hle.out (k + 1) (by omega); omega
          have hjoin : icells (totN ns k) m ++ icells (ns k) (vs k) = icells (totN ns (k + 1)) m := icells_join (totN ns k) (ns k) m (vs k) (Hm.out k hlt2)
          obtain ⟨N, HN⟩ : ∃ N, Hid (ns k = N) := ⟨_, Lib.hid (Eq.refl _)⟩
          obtain ⟨V, HV⟩ : ∃ N, Hid (vs k = N) := ⟨_, Lib.hid (Eq.refl _)⟩
          obtain ⟨Z, HZ⟩ : ∃ N, Hid (totN ns k = N) := ⟨_, Lib.hid (Eq.refl _)⟩
          obtain ⟨Z2, HZ2⟩ : ∃ N, Hid (totN ns (k + 1) = N) := ⟨_, Lib.hid (Eq.refl _)⟩
          have hz2 : Z + N = Z2 := by rw [← HZ2.out, ← HZ.out, ← HN.out]; rfl
          have Hz2 := Lib.hid hz2
          obtain ⟨cq, Hcq⟩ : ∃ N, Hid (cs k = N) := ⟨_, Lib.hid (Eq.refl _)⟩
          rw [Hcq.out] at hc
          obtain ⟨q, Hq⟩ : ∃ N, Hid (gs k = N) := ⟨_, Lib.hid (Eq.refl _)⟩
          rw [HN.out] at hn hc hrw hjoin
          rw [Hq.out] at hc hrw
          rw [HV.out] at hrw hjoin
          rw [HZ.out] at HO hjoin ⊢
          rw [HZ2.out] at htk hjoin
          have hr2 : IRow wr (some ⟨q, 0, none⟩) N V := hrw.below (HBs.out ▸ HB.out)
          have hos := HO.out
          have hbsz : B ≤ wr.heap.size := by have := HB.out.size; have := HBs.out; omega
          have Hjoin := Lib.hid hjoin
          clear hrw hz2 hjoin
          go_wp2_with (at_builtin; go_must (refine wpList_append_irow rfl (.tmp 31) (.tmp 32) rfl B _ Z m hos rfl (some ⟨q, 0, none⟩) N cq V rfl hr2 ?_ ?_ hbsz ?_; (intro e; cases e); (have := Hz2.out; omega); intro v5 w5 ho5 hg5 hne5; rw [Hz2.out, Hjoin.out] at ho5; obtain ⟨g5, cp5, rfl, _⟩ := World.ownsRow.form ho5 (by have := Hz2.out; omega); have HO5 := Lib.hid ho5; have HB5 : Hid (Below B w w5) := Lib.hid (HB.out.grown hg5 hbsz (fun g e => (World.ownsRow.lt hos g e).1)); clear ho5 hg5 hne5 hos hr2 hc))
          go_roundw
          case rel => exact ⟨k + 1, g5, cp5, by omega, by rw [HZ2.out], by go_num, by rw [HZ2.out]; exact HO5, HB5⟩
          case measure => simp [intOf]; omega
        · obtain rfl : k = j := by omega
          have dk2 : decide ((k : Int) < (k : Int)) = false := by rw [decide_eq_false_iff_not]; omega
          rw [HT.out] at HO ⊢
          go_wp2_with fail
          go_ret
          exact ⟨g2, cp2, rfl, HO.out, HB.out⟩
end Go.Proofs.Ytahgeeklenojjaa
