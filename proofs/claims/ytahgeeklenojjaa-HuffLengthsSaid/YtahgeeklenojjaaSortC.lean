/- The library's merging of two sorted stretches of pairs in place. Printed by gen_symm.py. Conditions: rows of pairs as they stand in memory, weights within bounds. -/
import Derived.Test.YtahgeeklenojjaaSortA
import Derived.Test.YtahgeeklenojjaaSortB
namespace Go.Proofs.Ytahgeeklenojjaa
open Go.RowKit
set_option maxRecDepth 100000

theorem KB.mvR {x : Nat → Pr} {C : Nat} (h : KB x C) (i j : Nat) (hi : i < C) (hj : j < C) : KB (Go.Proofs.Ytahgeeklenojjaa.mvR x i j) C := fun p hp => by
  unfold Go.Proofs.Ytahgeeklenojjaa.mvR
  split
  · exact h i hi
  · split
    · exact h (p + 1) (by omega)
    · exact h p hp
theorem KB.rot {x : Nat → Pr} {C : Nat} (h : KB x C) (a m b : Nat) (ha : a ≤ m) (hm : m ≤ b) (hb : b ≤ C) : KB (Go.Proofs.Ytahgeeklenojjaa.rot x a m b) C := fun p hp => by
  unfold Go.Proofs.Ytahgeeklenojjaa.rot
  split
  · exact h (p + (m - a)) (by omega)
  · split
    · exact h (p - (b - m)) (by omega)
    · exact h p hp
/-- What a merge leaves. -/
def SmPost (g C a m b : Nat) (x : Nat → Pr) (w : World) (e : Ending) (w' : World) : Prop :=
  e = .returned (.tuple #[]) ∧ Ch1 w w' g ∧ ∃ y, PB w' g C y ∧ KB y C ∧ seg y a b = mrg pk (seg x a m) (seg x m b) ∧ ∀ p, (p < a ∨ b ≤ p) → y p = x p
theorem sm_one (x : Nat → Pr) (a b i : Nat) (hi : a + 1 ≤ i) (hb : i ≤ b) (h1 : ∀ p, a + 1 ≤ p → p < i → (x p).k < (x a).k) (h2 : ∀ p, i ≤ p → p < b → (x a).k ≤ (x p).k) :
    seg (mvR x a (i - 1)) a b = mrg pk (seg x a (a + 1)) (seg x (a + 1) b) := by
  have e1 : seg (mvR x a (i - 1)) a (i - 1) = seg x (a + 1) i := seg_like _ _ _ _ _ _ (by omega) fun k hk => by
    unfold mvR
    rw [if_neg (by omega), if_pos (by omega)]
    congr 1
    omega
  have e2 : seg (mvR x a (i - 1)) (i - 1) i = [x a] := by
    have := seg_one (mvR x a (i - 1)) (i - 1)
    rw [show i - 1 + 1 = i by omega] at this
    rw [this]
    unfold mvR
    rw [if_pos rfl]
  have e3 : seg (mvR x a (i - 1)) i b = seg x i b := seg_like _ _ _ _ _ _ rfl fun k hk => by unfold mvR; rw [if_neg (by omega), if_neg (by omega)]
  rw [seg_app _ a (i - 1) b (by omega) (by omega), seg_app _ (i - 1) i b (by omega) hb, e1, e2, e3, seg_one, seg_app x (a + 1) i b hi hb]
  refine (single_mrg pk _ _ _ (fun z hz => ?_) (fun z hz => ?_)).symm
  · obtain ⟨p, h3, h4, rfl⟩ := mem_seg _ _ _ _ hz
    exact h1 p h3 h4
  · obtain ⟨p, h3, h4, rfl⟩ := mem_seg _ _ _ _ hz
    exact h2 p h3 h4
theorem sm_last (x : Nat → Pr) (a m i : Nat) (ha : a ≤ i) (hi : i ≤ m) (h1 : ∀ p, a ≤ p → p < i → (x p).k ≤ (x m).k) (h2 : ∀ p, i ≤ p → p < m → (x m).k < (x p).k) :
    seg (mvL x m i) a (m + 1) = mrg pk (seg x a m) (seg x m (m + 1)) := by
  have e1 : seg (mvL x m i) a i = seg x a i := seg_like _ _ _ _ _ _ rfl fun k hk => by unfold mvL; rw [if_neg (by omega), if_neg (by omega)]
  have e2 : seg (mvL x m i) i (i + 1) = [x m] := by rw [seg_one]; unfold mvL; rw [if_pos rfl]
  have e3 : seg (mvL x m i) (i + 1) (m + 1) = seg x i m := seg_like _ _ _ _ _ _ (by omega) fun k hk => by
    unfold mvL
    rw [if_neg (by omega), if_pos (by omega)]
    congr 1
    omega
  rw [seg_app _ a i (m + 1) ha (by omega), seg_app _ i (i + 1) (m + 1) (by omega) (by omega), e1, e2, e3, seg_one, seg_app x a i m ha hi]
  refine (mrg_single pk _ _ _ (fun z hz => ?_) (fun z hz => ?_)).symm
  · obtain ⟨p, h3, h4, rfl⟩ := mem_seg _ _ _ _ hz
    exact h1 p h3 h4
  · obtain ⟨p, h3, h4, rfl⟩ := mem_seg _ _ _ _ hz
    exact h2 p h3 h4
theorem sub_srt {x : Nat → Pr} {a b c d : Nat} (h : Srt pk (seg x a b)) (h1 : a ≤ c) (h2 : d ≤ b) : Srt pk (seg x c d) :=
  (seg_srt pk x c d).2 fun p q h3 h4 h5 => (seg_srt pk x a b).1 h p q (by omega) h4 (by omega)
/-- The parts of a merge that is split at s and e. -/
theorem sm_parts (x : Nat → Pr) (a m b s mid e lo hi : Nat) (hsm : s ≤ m) (has : a ≤ s) (hme : m ≤ e) (heb : e ≤ b) (he : e + s = mid + m) (hs1 : Srt pk (seg x a m)) (hs2 : Srt pk (seg x m b))
    (hlo : lo = a ∨ lo + b = mid + m) (hhi : hi = m ∨ hi = mid) (hA : s = lo ∨ (lo < s ∧ (x (s - 1)).k ≤ (x e).k)) (hB : s = hi ∨ (x (e - 1)).k < (x s).k) :
    seg (rot x s m e) a s = seg x a s ∧ seg (rot x s m e) s mid = seg x m e ∧ seg (rot x s m e) mid e = seg x s m ∧ seg (rot x s m e) e b = seg x e b ∧
    mrg pk (seg x a m) (seg x m b) = mrg pk (seg x a s) (seg x m e) ++ mrg pk (seg x s m) (seg x e b) := by
  refine ⟨?_, ?_, ?_, ?_, ?_⟩
  · exact seg_like _ _ _ _ _ _ rfl fun k hk => by unfold rot; rw [if_neg (by omega), if_neg (by omega)]
  · exact seg_like _ _ _ _ _ _ (by omega) fun k hk => by
      unfold rot
      rw [if_pos (by omega)]
      congr 1
      omega
  · exact seg_like _ _ _ _ _ _ (by omega) fun k hk => by
      unfold rot
      rw [if_neg (by omega), if_pos (by omega)]
      congr 1
      omega
  · exact seg_like _ _ _ _ _ _ rfl fun k hk => by unfold rot; rw [if_neg (by omega), if_neg (by omega)]
  · rw [seg_app x a s m has hsm, seg_app x m e b hme heb]
    refine mrg_split pk _ _ _ _ _ (Nat.le_refl _) (fun u hu v hv => ?_) (fun u hu v hv => ?_)
    · obtain ⟨p, h1, h2, rfl⟩ := mem_seg _ _ _ _ hu
      obtain ⟨q, h3, h4, rfl⟩ := mem_seg _ _ _ _ hv
      have hB' : (x (e - 1)).k < (x s).k := hB.resolve_left (by omega)
      have k1 : pk (x s) ≤ pk (x p) := by
        by_cases ep : p = s
        · rw [ep]; exact Int.le_refl _
        · exact (seg_srt pk x a m).1 hs1 s p has (by omega) h2
      have k2 : pk (x q) ≤ pk (x (e - 1)) := by
        by_cases eq : q = e - 1
        · rw [eq]; exact Int.le_refl _
        · exact (seg_srt pk x m b).1 hs2 q (e - 1) h3 (by omega) (by omega)
      have k3 : pk (x (e - 1)) < pk (x s) := hB'
      omega
    · obtain ⟨p, h1, h2, rfl⟩ := mem_seg _ _ _ _ hu
      obtain ⟨q, h3, h4, rfl⟩ := mem_seg _ _ _ _ hv
      have hA' : (x (s - 1)).k ≤ (x e).k := (hA.resolve_left (by omega)).2
      have k1 : pk (x p) ≤ pk (x (s - 1)) := by
        by_cases ep : p = s - 1
        · rw [ep]; exact Int.le_refl _
        · exact (seg_srt pk x a m).1 hs1 p (s - 1) h1 (by omega) (by omega)
      have k2 : pk (x e) ≤ pk (x q) := by
        by_cases eq : q = e
        · rw [eq]; exact Int.le_refl _
        · exact (seg_srt pk x m b).1 hs2 e q hme (by omega) h4
      have k3 : pk (x (s - 1)) ≤ pk (x e) := hA'
      omega
theorem rot_trivial (x : Nat → Pr) (s m e : Nat) (h : s = m ∨ e = m) : rot x s m e = x := by
  funext p
  unfold rot
  rcases h with rfl | rfl <;> ((repeat' split) <;> first | (exfalso; omega) | rfl | (congr 1; omega))
theorem half_wrap (s : Nat) (hs : s ≤ 4000000) : IntKind.u64.wrap (s : Int) = (s : Int) := by rw [IntKind.wrap_u64]; omega

set_option maxHeartbeats 64000000 in
theorem sm_any (g C N cap : Nat) (hN : N ≤ C) (hC : C ≤ 1000000) : ∀ (d a m b : Nat) (x : Nat → Pr) (w : World), b - a ≤ d → a < m → m < b → b ≤ N → KB x C → PB w g C x → Srt pk (seg x a m) → Srt pk (seg x m b) →
    Calls Try.prog 33 #[.slice (some ⟨g, 0, none⟩) N cap, .int .i64 (a : Int), .int .i64 (m : Int), .int .i64 (b : Int), .func (.func 23) #[] #[]] w (SmPost g C a m b x w) := by
  intro d
  induction d with
  | zero => intro a m b x w h1 h2 h3; omega
  | succ d ih =>
  intro a m b x w hd ham hmb hbN hk hx hs1 hs2
  have IH := Lib.hid ih
  have HK := Lib.hid hk
  have HX := Lib.hid hx
  have HS1 := Lib.hid hs1
  have HS2 := Lib.hid hs2
  have HG := Lib.hid (Ch1.refl w g)
  clear ih hk hx hs1 hs2
  by_cases hone : m = a + 1
  · subst hone
    obtain ⟨m, Hm⟩ : ∃ R, Hid (a + 1 = R) := ⟨_, Lib.hid (Eq.refl _)⟩
    rw [Hm.out] at ham hmb HS1 HS2
    have hmv := Hm.out
    rw [hmv]
    have e1 : IntKind.i64.wrap ((m : Int) - (a : Int)) = 1 := by rw [IntKind.wrap_i64]; omega
    clear hmv
    go_enter Try.func33, Try.ntmps33
    go_wp2_with fail
    go_loopw [10, 11] (fun i_ j_ wr => ∃ i j : Nat, m ≤ i ∧ i ≤ j ∧ j ≤ b ∧ i_ = .int .i64 (i : Int) ∧ j_ = .int .i64 (j : Int) ∧ Hid (PB wr g C x) ∧ Hid (Ch1 w wr g) ∧ Hid ((∀ p, m ≤ p → p < i → (x p).k < (x a).k) ∧ (∀ p, j ≤ p → p < b → (x a).k ≤ (x p).k))) (fun i j _ => (intOf j).toNat - (intOf i).toNat)
    case atStart => exact ⟨m, b, by omega, by omega, by omega, rfl, rfl, HX, HG, fun p h1 h2 => by omega, fun p h1 h2 => by omega⟩
    case round =>
      clear HX HG
      obtain ⟨i, j, hi, hij, hj, rfl, rfl, HX, HG, HI⟩ := hrel
      by_cases hlt : i < j
      · have d1 : decide ((i : Int) < (j : Int)) = true := by rw [decide_eq_true_eq]; omega
        have d1b : decide (i < j) = true := by rw [decide_eq_true_eq]; omega
        obtain ⟨s, Hs⟩ : ∃ R, Hid (i + j = R) := ⟨_, Lib.hid (Eq.refl _)⟩
        have hsv := Hs.out
        have w1 : IntKind.i64.wrap ((i : Int) + (j : Int)) = (s : Int) := by rw [IntKind.wrap_i64]; omega
        have w2 := half_wrap s (by omega)
        obtain ⟨h, Hh⟩ : ∃ R, Hid (s / 2 = R) := ⟨_, Lib.hid (Eq.refl _)⟩
        have hhv := Hh.out
        have w3 : (s : Int) / 2 = (h : Int) := by omega
        have w3b : IntKind.i64.wrap (h : Int) = (h : Int) := by rw [IntKind.wrap_i64]; omega
        have w3c : IntKind.u64.wrap (h : Int) = (h : Int) := half_wrap h (by omega)
        have hh1 : i ≤ h := by omega
        have hh2 : h < j := by omega
        clear hsv hhv
        have hPN : (h : Int) < (N : Int) := by omega
        have hQN : (a : Int) < (N : Int) := by omega
        have hc1 := HX.out.k h (by omega)
        have hs1 := HX.out.s h (by omega)
        have hc2 := HX.out.k a (by omega)
        have hs2 := HX.out.s a (by omega)
        have hb1 := HK.out h (by omega)
        have hb2 := HK.out a (by omega)
        obtain ⟨X, HXp⟩ : ∃ R, Hid (x h = R) := ⟨_, Lib.hid (Eq.refl _)⟩
        obtain ⟨Y, HYq⟩ : ∃ R, Hid (x a = R) := ⟨_, Lib.hid (Eq.refl _)⟩
        rw [HXp.out] at hc1 hs1 hb1
        rw [HYq.out] at hc2 hs2 hb2
        obtain ⟨k1, a1, n1, c1⟩ := X
        obtain ⟨k2, a2, n2, c2⟩ := Y
        unfold Pr.s at hs1 hs2
        dsimp only at hc1 hs1 hb1 hc2 hs2 hb2
        have CC := Lib.hid (fun W => weigh_any k1 k2 (.slice a1 n1 c1) (.slice a2 n2 c2) hb1 hb2 W)
        have hgl : g < wr.drew.heap.size := PB.lt HX.out
        have hc1d : wr.drew.cell? ⟨g, h * 2, none⟩ = some (.int .i64 k1) := hc1
        have hs1d : wr.drew.cell? ⟨g, h * 2 + 1, none⟩ = some (.slice a1 n1 c1) := hs1
        have hc2d : wr.drew.cell? ⟨g, a * 2, none⟩ = some (.int .i64 k2) := hc2
        have hs2d : wr.drew.cell? ⟨g, a * 2 + 1, none⟩ = some (.slice a2 n2 c2) := hs2
        by_cases hk : k1 < k2
        · have d3 : decide (k1 - k2 < 0) = true := by rw [decide_eq_true_eq]; omega
          have HI2 : Hid ((∀ p, m ≤ p → p < h + 1 → (x p).k < (x a).k) ∧ (∀ p, j ≤ p → p < b → (x a).k ≤ (x p).k)) := by
            refine ⟨fun p h1 h2 => ?_, HI.out.2⟩
            have hle : (x p).k ≤ (x h).k := by
              by_cases e : p = h
              · rw [e]; exact Int.le_refl _
              · exact (seg_srt pk x m b).1 HS2.out p h h1 (by omega) (by omega)
            rw [HXp.out] at hle
            rw [HYq.out]
            exact Int.lt_of_le_of_lt hle hk
          clear HI
          go_wp2_with fail
          go_region_held3 (fun W => W.cell? ⟨g, h * 2, none⟩ = some (.int .i64 k1) ∧ W.cell? ⟨g, h * 2 + 1, none⟩ = some (.slice a1 n1 c1) ∧ W.cell? ⟨g, a * 2, none⟩ = some (.int .i64 k2) ∧ W.cell? ⟨g, a * 2 + 1, none⟩ = some (.slice a2 n2 c2))
            (first | exact ⟨by assumption, by assumption, by assumption, by assumption⟩ | go_keep)
            (first
              | (go_at_call 23; refine (CC.out _).mono ?_; rintro e w8 ⟨rfl, hb8⟩; have hP8 : PB w8 g C x := (show PB wr.drew g C x from HX.out).below hb8 hgl; have hG8 : Ch1 w w8 g := Ch1.below HG.out.drew hb8; have q1 := (hb8.cell (p := ⟨g, h * 2, none⟩) hgl).trans hc1d; have q2 := (hb8.cell (p := ⟨g, h * 2 + 1, none⟩) hgl).trans hs1d; have q3 := (hb8.cell (p := ⟨g, a * 2, none⟩) hgl).trans hc2d; have q4 := (hb8.cell (p := ⟨g, a * 2 + 1, none⟩) hgl).trans hs2d))
          rename_i hh
          have HP8 := Lib.hid hP8
          have HG8 := Lib.hid hG8
          clear hh hb8 hP8 hG8 hgl hc1 hs1 hc2 hs2 hc1d hs1d hc2d hs2d CC HX HG q1 q2 q3 q4
          go_wp2_with fail
          go_roundw
          case rel => exact ⟨h + 1, j, by omega, by omega, by omega, by go_num, rfl, HP8, HG8, HI2⟩
          case measure => simp [intOf]; omega
        · have d3 : decide (k1 - k2 < 0) = false := by rw [decide_eq_false_iff_not]; omega
          have HI2 : Hid ((∀ p, m ≤ p → p < i → (x p).k < (x a).k) ∧ (∀ p, h ≤ p → p < b → (x a).k ≤ (x p).k)) := by
            refine ⟨HI.out.1, fun p h1 h2 => ?_⟩
            have hle : (x h).k ≤ (x p).k := by
              by_cases e : p = h
              · rw [e]; exact Int.le_refl _
              · exact (seg_srt pk x m b).1 HS2.out h p (by omega) (by omega) h2
            rw [HXp.out] at hle
            rw [HYq.out]
            exact Int.le_trans (Int.not_lt.1 hk) hle
          clear HI
          go_wp2_with fail
          go_region_held3 (fun W => W.cell? ⟨g, h * 2, none⟩ = some (.int .i64 k1) ∧ W.cell? ⟨g, h * 2 + 1, none⟩ = some (.slice a1 n1 c1) ∧ W.cell? ⟨g, a * 2, none⟩ = some (.int .i64 k2) ∧ W.cell? ⟨g, a * 2 + 1, none⟩ = some (.slice a2 n2 c2))
            (first | exact ⟨by assumption, by assumption, by assumption, by assumption⟩ | go_keep)
            (first
              | (go_at_call 23; refine (CC.out _).mono ?_; rintro e w8 ⟨rfl, hb8⟩; have hP8 : PB w8 g C x := (show PB wr.drew g C x from HX.out).below hb8 hgl; have hG8 : Ch1 w w8 g := Ch1.below HG.out.drew hb8; have q1 := (hb8.cell (p := ⟨g, h * 2, none⟩) hgl).trans hc1d; have q2 := (hb8.cell (p := ⟨g, h * 2 + 1, none⟩) hgl).trans hs1d; have q3 := (hb8.cell (p := ⟨g, a * 2, none⟩) hgl).trans hc2d; have q4 := (hb8.cell (p := ⟨g, a * 2 + 1, none⟩) hgl).trans hs2d))
          rename_i hh
          have HP8 := Lib.hid hP8
          have HG8 := Lib.hid hG8
          clear hh hb8 hP8 hG8 hgl hc1 hs1 hc2 hs2 hc1d hs1d hc2d hs2d CC HX HG q1 q2 q3 q4
          go_wp2_with fail
          go_roundw
          case rel => exact ⟨i, h, by omega, by omega, by omega, rfl, by first | rfl | go_num, HP8, HG8, HI2⟩
          case measure => simp [intOf]; omega
      · obtain rfl : i = j := by omega
        have d1 : decide ((i : Int) < (i : Int)) = false := by rw [decide_eq_false_iff_not]; omega
        have hia : a + 1 ≤ i := by have := Hm.out; omega
        obtain ⟨z, Hz⟩ : ∃ R, Hid (i - 1 = R) := ⟨_, Lib.hid (Eq.refl _)⟩
        have hzv := Hz.out
        have w1 : IntKind.i64.wrap ((i : Int) - 1) = (z : Int) := by rw [IntKind.wrap_i64]; omega
        have haz : a ≤ z := by omega
        have hzb : z + 1 ≤ b := by omega
        have HX2 : Hid (PB wr g C (mvR x a a)) := by show PB _ _ _ _; rw [mvR_same]; exact HX.out
        clear hzv HX
        go_wp2_with fail
        go_loopw [13] (fun k_ wr => ∃ k : Nat, a ≤ k ∧ k ≤ z ∧ k_ = .int .i64 (k : Int) ∧ Hid (PB wr g C (mvR x a k)) ∧ Hid (Ch1 w wr g)) (fun k _ => z - (intOf k).toNat)
        case atStart => exact ⟨a, Nat.le_refl _, haz, rfl, HX2, HG⟩
        case round =>
          clear HX2 HG
          obtain ⟨k, hk1, hk2, rfl, HX, HG⟩ := hrel
          by_cases hkz : k < z
          · have d2 : decide ((k : Int) < (z : Int)) = true := by rw [decide_eq_true_eq]; omega
            have d2b : decide (k < z) = true := by rw [decide_eq_true_eq]; omega
            obtain ⟨q, Hq⟩ : ∃ R, Hid (k + 1 = R) := ⟨_, Lib.hid (Eq.refl _)⟩
            have hq0 := Hq.out
            have w3 : IntKind.i64.wrap ((k : Int) + 1) = (q : Int) := by rw [IntKind.wrap_i64]; omega
            have hqz : q ≤ z := by omega
            have haq : a ≤ q := by omega
            have hqk : k < q := by omega
            have hqN0 : q < N := by omega
            clear hq0
            have hPN : (k : Int) < (N : Int) := by omega
            have hQN : (q : Int) < (N : Int) := by omega
            have hc1 := HX.out.k k (by omega)
            have hs1 := HX.out.s k (by omega)
            have hc2 := HX.out.k q (by omega)
            have hs2 := HX.out.s q (by omega)
            have hf1 := PB.frozen HX.out (k * 2)
            have hf2 := PB.frozen HX.out (k * 2 + 1)
            have hf3 := PB.frozen HX.out (q * 2)
            have hf4 := PB.frozen HX.out (q * 2 + 1)
            have hqv := Hq.out
            have ne1 : ¬ (q * 2 = k * 2) := by omega
            have ne2 : ¬ (q * 2 = k * 2 + 1) := by omega
            have ne3 : ¬ (q * 2 + 1 = k * 2) := by omega
            have ne4 : ¬ (q * 2 + 1 = k * 2 + 1) := by omega
            have ne5 : ¬ (k * 2 = q * 2) := by omega
            have ne6 : ¬ (k * 2 = q * 2 + 1) := by omega
            have ne7 : ¬ (k * 2 + 1 = q * 2) := by omega
            have ne8 : ¬ (k * 2 + 1 = q * 2 + 1) := by omega
            have hS := HX.out.sw k q (by omega) (by omega) (by omega)
            have hnx : sw (mvR x a k) k q = mvR x a q := by
              rw [← hqv, mvR_sw x a k hk1]
            rw [hnx] at hS
            obtain ⟨X, HXp⟩ : ∃ R, Hid ((mvR x a k) k = R) := ⟨_, Lib.hid (Eq.refl _)⟩
            obtain ⟨Y, HYq⟩ : ∃ R, Hid ((mvR x a k) q = R) := ⟨_, Lib.hid (Eq.refl _)⟩
            rw [HXp.out] at hc1 hs1 hS
            rw [HYq.out] at hc2 hs2 hS
            obtain ⟨k1, a1, n1, c1⟩ := X
            obtain ⟨k2, a2, n2, c2⟩ := Y
            unfold Pr.s at hs1 hs2 hS
            dsimp only at hc1 hs1 hc2 hs2 hS
            have HPS : Hid (∀ z0, PB (((((wr.setCell ⟨g, k * 2, none⟩ (.int .i64 k2)).setCell ⟨g, k * 2 + 1, none⟩ (.slice a2 n2 c2)).setCell ⟨g, q * 2, none⟩ (.int .i64 k1)).setCell ⟨g, q * 2 + 1, none⟩ (.slice a1 n1 c1)).drewN z0) g C (mvR x a q)) := fun z0 => hS
            have HGS : Hid (∀ z0, Ch1 w (((((wr.setCell ⟨g, k * 2, none⟩ (.int .i64 k2)).setCell ⟨g, k * 2 + 1, none⟩ (.slice a2 n2 c2)).setCell ⟨g, q * 2, none⟩ (.int .i64 k1)).setCell ⟨g, q * 2 + 1, none⟩ (.slice a1 n1 c1)).drewN z0) g) := fun z0 =>
              ((((HG.out.set _ _).set _ _).set _ _).set _ _).drewN z0
            clear hS HX HG hqv hnx HXp HYq
            go_wp2_with fail
            go_region
            all_goals
              go_wp2_with fail
              go_roundw
              case rel => exact ⟨q, haq, hqz, by first | rfl | go_num, HPS.out 1, HGS.out 1⟩
              case measure => simp [intOf]; omega
          · obtain rfl : k = z := by omega
            have d2 : decide ((k : Int) < (k : Int)) = false := by rw [decide_eq_false_iff_not]; omega
            go_wp2_with fail
            (try simp only [Exit.inBlock, Exit.then]); refine bodyPost_end (results_none rfl _ _ _) rfl ?_
            have hz := Hz.out
            have hm := Hm.out
            refine ⟨rfl, HG.out, mvR x a k, HX.out, HK.out.mvR a k (by omega) (by omega), ?_, fun p hp => ?_⟩
            · rw [← hz, ← hm]
              refine sm_one x a b i hia (by omega) (fun p h1 h2 => HI.out.1 p (by omega) h2) HI.out.2
            · unfold mvR
              rw [if_neg (by omega), if_neg (by omega)]
  · by_cases hlast : b = m + 1
    · subst hlast
      obtain ⟨b, Hb⟩ : ∃ R, Hid (m + 1 = R) := ⟨_, Lib.hid (Eq.refl _)⟩
      rw [Hb.out] at hmb hbN HS2 hd ⊢
      have hbv := Hb.out
      have e1 : IntKind.i64.wrap ((b : Int) - (m : Int)) = 1 := by rw [IntKind.wrap_i64]; omega
      obtain ⟨ma, Hma⟩ : ∃ R, Hid (m - a = R) := ⟨_, Lib.hid (Eq.refl _)⟩
      have hmav := Hma.out
      have e2 : IntKind.i64.wrap ((m : Int) - (a : Int)) = (ma : Int) := by rw [IntKind.wrap_i64]; omega
      have e3 : ((ma : Int) == 1) = false := by simp; omega
      clear hbv hmav
      go_enter Try.func33, Try.ntmps33
      go_wp2_with fail
      go_loopw [14, 15] (fun i_ j_ wr => ∃ i j : Nat, a ≤ i ∧ i ≤ j ∧ j ≤ m ∧ i_ = .int .i64 (i : Int) ∧ j_ = .int .i64 (j : Int) ∧ Hid (PB wr g C x) ∧ Hid (Ch1 w wr g) ∧ Hid ((∀ p, a ≤ p → p < i → (x p).k ≤ (x m).k) ∧ (∀ p, j ≤ p → p < m → (x m).k < (x p).k))) (fun i j _ => (intOf j).toNat - (intOf i).toNat)
      case atStart => exact ⟨a, m, by omega, by omega, by omega, rfl, rfl, HX, HG, fun p h1 h2 => by omega, fun p h1 h2 => by omega⟩
      case round =>
        clear HX HG
        obtain ⟨i, j, hi, hij, hj, rfl, rfl, HX, HG, HI⟩ := hrel
        by_cases hlt : i < j
        · have d1 : decide ((i : Int) < (j : Int)) = true := by rw [decide_eq_true_eq]; omega
          have d1b : decide (i < j) = true := by rw [decide_eq_true_eq]; omega
          obtain ⟨s, Hs⟩ : ∃ R, Hid (i + j = R) := ⟨_, Lib.hid (Eq.refl _)⟩
          have hsv := Hs.out
          have w1 : IntKind.i64.wrap ((i : Int) + (j : Int)) = (s : Int) := by rw [IntKind.wrap_i64]; omega
          have w2 := half_wrap s (by omega)
          obtain ⟨h, Hh⟩ : ∃ R, Hid (s / 2 = R) := ⟨_, Lib.hid (Eq.refl _)⟩
          have hhv := Hh.out
          have w3 : (s : Int) / 2 = (h : Int) := by omega
          have w3b : IntKind.i64.wrap (h : Int) = (h : Int) := by rw [IntKind.wrap_i64]; omega
          have w3c : IntKind.u64.wrap (h : Int) = (h : Int) := half_wrap h (by omega)
          have hh1 : i ≤ h := by omega
          have hh2 : h < j := by omega
          clear hsv hhv
          have hPN : (m : Int) < (N : Int) := by omega
          have hQN : (h : Int) < (N : Int) := by omega
          have hc1 := HX.out.k m (by omega)
          have hs1 := HX.out.s m (by omega)
          have hc2 := HX.out.k h (by omega)
          have hs2 := HX.out.s h (by omega)
          have hb1 := HK.out m (by omega)
          have hb2 := HK.out h (by omega)
          obtain ⟨X, HXp⟩ : ∃ R, Hid (x m = R) := ⟨_, Lib.hid (Eq.refl _)⟩
          obtain ⟨Y, HYq⟩ : ∃ R, Hid (x h = R) := ⟨_, Lib.hid (Eq.refl _)⟩
          rw [HXp.out] at hc1 hs1 hb1
          rw [HYq.out] at hc2 hs2 hb2
          obtain ⟨k1, a1, n1, c1⟩ := X
          obtain ⟨k2, a2, n2, c2⟩ := Y
          unfold Pr.s at hs1 hs2
          dsimp only at hc1 hs1 hb1 hc2 hs2 hb2
          have CC := Lib.hid (fun W => weigh_any k1 k2 (.slice a1 n1 c1) (.slice a2 n2 c2) hb1 hb2 W)
          have hgl : g < wr.drew.heap.size := PB.lt HX.out
          have hc1d : wr.drew.cell? ⟨g, m * 2, none⟩ = some (.int .i64 k1) := hc1
          have hs1d : wr.drew.cell? ⟨g, m * 2 + 1, none⟩ = some (.slice a1 n1 c1) := hs1
          have hc2d : wr.drew.cell? ⟨g, h * 2, none⟩ = some (.int .i64 k2) := hc2
          have hs2d : wr.drew.cell? ⟨g, h * 2 + 1, none⟩ = some (.slice a2 n2 c2) := hs2
          by_cases hk : k1 < k2
          · have d3 : decide (k1 - k2 < 0) = true := by rw [decide_eq_true_eq]; omega
            have HI2 : Hid ((∀ p, a ≤ p → p < i → (x p).k ≤ (x m).k) ∧ (∀ p, h ≤ p → p < m → (x m).k < (x p).k)) := by
              refine ⟨HI.out.1, fun p h1 h2 => ?_⟩
              have hle : (x h).k ≤ (x p).k := by
                by_cases e : p = h
                · rw [e]; exact Int.le_refl _
                · exact (seg_srt pk x a m).1 HS1.out h p (by omega) (by omega) h2
              rw [HYq.out] at hle
              rw [HXp.out]
              exact Int.lt_of_lt_of_le hk hle
            clear HI
            go_wp2_with fail
            go_region_held3 (fun W => W.cell? ⟨g, m * 2, none⟩ = some (.int .i64 k1) ∧ W.cell? ⟨g, m * 2 + 1, none⟩ = some (.slice a1 n1 c1) ∧ W.cell? ⟨g, h * 2, none⟩ = some (.int .i64 k2) ∧ W.cell? ⟨g, h * 2 + 1, none⟩ = some (.slice a2 n2 c2))
              (first | exact ⟨by assumption, by assumption, by assumption, by assumption⟩ | go_keep)
              (first
                | (go_at_call 23; refine (CC.out _).mono ?_; rintro e w8 ⟨rfl, hb8⟩; have hP8 : PB w8 g C x := (show PB wr.drew g C x from HX.out).below hb8 hgl; have hG8 : Ch1 w w8 g := Ch1.below HG.out.drew hb8; have q1 := (hb8.cell (p := ⟨g, m * 2, none⟩) hgl).trans hc1d; have q2 := (hb8.cell (p := ⟨g, m * 2 + 1, none⟩) hgl).trans hs1d; have q3 := (hb8.cell (p := ⟨g, h * 2, none⟩) hgl).trans hc2d; have q4 := (hb8.cell (p := ⟨g, h * 2 + 1, none⟩) hgl).trans hs2d))
            rename_i hh
            have HP8 := Lib.hid hP8
            have HG8 := Lib.hid hG8
            clear hh hb8 hP8 hG8 hgl hc1 hs1 hc2 hs2 hc1d hs1d hc2d hs2d CC HX HG q1 q2 q3 q4
            go_wp2_with fail
            go_roundw
            case rel => exact ⟨i, h, by omega, by omega, by omega, rfl, by first | rfl | go_num, HP8, HG8, HI2⟩
            case measure => simp [intOf]; omega
          · have d3 : decide (k1 - k2 < 0) = false := by rw [decide_eq_false_iff_not]; omega
            have HI2 : Hid ((∀ p, a ≤ p → p < h + 1 → (x p).k ≤ (x m).k) ∧ (∀ p, j ≤ p → p < m → (x m).k < (x p).k)) := by
              refine ⟨fun p h1 h2 => ?_, HI.out.2⟩
              have hle : (x p).k ≤ (x h).k := by
                by_cases e : p = h
                · rw [e]; exact Int.le_refl _
                · exact (seg_srt pk x a m).1 HS1.out p h h1 (by omega) (by omega)
              rw [HYq.out] at hle
              rw [HXp.out]
              exact Int.le_trans hle (Int.not_lt.1 hk)
            clear HI
            go_wp2_with fail
            go_region_held3 (fun W => W.cell? ⟨g, m * 2, none⟩ = some (.int .i64 k1) ∧ W.cell? ⟨g, m * 2 + 1, none⟩ = some (.slice a1 n1 c1) ∧ W.cell? ⟨g, h * 2, none⟩ = some (.int .i64 k2) ∧ W.cell? ⟨g, h * 2 + 1, none⟩ = some (.slice a2 n2 c2))
              (first | exact ⟨by assumption, by assumption, by assumption, by assumption⟩ | go_keep)
              (first
                | (go_at_call 23; refine (CC.out _).mono ?_; rintro e w8 ⟨rfl, hb8⟩; have hP8 : PB w8 g C x := (show PB wr.drew g C x from HX.out).below hb8 hgl; have hG8 : Ch1 w w8 g := Ch1.below HG.out.drew hb8; have q1 := (hb8.cell (p := ⟨g, m * 2, none⟩) hgl).trans hc1d; have q2 := (hb8.cell (p := ⟨g, m * 2 + 1, none⟩) hgl).trans hs1d; have q3 := (hb8.cell (p := ⟨g, h * 2, none⟩) hgl).trans hc2d; have q4 := (hb8.cell (p := ⟨g, h * 2 + 1, none⟩) hgl).trans hs2d))
            rename_i hh
            have HP8 := Lib.hid hP8
            have HG8 := Lib.hid hG8
            clear hh hb8 hP8 hG8 hgl hc1 hs1 hc2 hs2 hc1d hs1d hc2d hs2d CC HX HG q1 q2 q3 q4
            go_wp2_with fail
            go_roundw
            case rel => exact ⟨h + 1, j, by omega, by omega, by omega, by go_num, rfl, HP8, HG8, HI2⟩
            case measure => simp [intOf]; omega
        · obtain rfl : i = j := by omega
          have d1 : decide ((i : Int) < (i : Int)) = false := by rw [decide_eq_false_iff_not]; omega
          have HX2 : Hid (PB wr g C (mvL x m m)) := by show PB _ _ _ _; rw [mvL_same]; exact HX.out
          clear HX
          go_wp2_with fail
          go_loopw [17] (fun k_ wr => ∃ k : Nat, i ≤ k ∧ k ≤ m ∧ k_ = .int .i64 (k : Int) ∧ Hid (PB wr g C (mvL x m k)) ∧ Hid (Ch1 w wr g)) (fun k _ => (intOf k).toNat)
          case atStart => exact ⟨m, by omega, Nat.le_refl _, rfl, HX2, HG⟩
          case round =>
            clear HX2 HG
            obtain ⟨k, hk1, hk2, rfl, HX, HG⟩ := hrel
            by_cases hki : i < k
            · have d2 : decide ((i : Int) < (k : Int)) = true := by rw [decide_eq_true_eq]; omega
              have d2b : decide (i < k) = true := by rw [decide_eq_true_eq]; omega
              obtain ⟨q, Hq⟩ : ∃ R, Hid (k - 1 = R) := ⟨_, Lib.hid (Eq.refl _)⟩
              have hq0 := Hq.out
              have w3 : IntKind.i64.wrap ((k : Int) - 1) = (q : Int) := by rw [IntKind.wrap_i64]; omega
              have hqi : i ≤ q := by omega
              have hqm : q ≤ m := by omega
              have hqk : q < k := by omega
              clear hq0
              have hPN : (k : Int) < (N : Int) := by omega
              have hQN : (q : Int) < (N : Int) := by omega
              have hc1 := HX.out.k k (by omega)
              have hs1 := HX.out.s k (by omega)
              have hc2 := HX.out.k q (by omega)
              have hs2 := HX.out.s q (by omega)
              have hf1 := PB.frozen HX.out (k * 2)
              have hf2 := PB.frozen HX.out (k * 2 + 1)
              have hf3 := PB.frozen HX.out (q * 2)
              have hf4 := PB.frozen HX.out (q * 2 + 1)
              have hqv := Hq.out
              have ne1 : ¬ (q * 2 = k * 2) := by omega
              have ne2 : ¬ (q * 2 = k * 2 + 1) := by omega
              have ne3 : ¬ (q * 2 + 1 = k * 2) := by omega
              have ne4 : ¬ (q * 2 + 1 = k * 2 + 1) := by omega
              have ne5 : ¬ (k * 2 = q * 2) := by omega
              have ne6 : ¬ (k * 2 = q * 2 + 1) := by omega
              have ne7 : ¬ (k * 2 + 1 = q * 2) := by omega
              have ne8 : ¬ (k * 2 + 1 = q * 2 + 1) := by omega
              have hS := HX.out.sw k q (by omega) (by omega) (by omega)
              have hnx : sw (mvL x m k) k q = mvL x m q := by
                have e : k = q + 1 := by omega
                rw [e, mvL_sw x m q (by omega)]
              rw [hnx] at hS
              obtain ⟨X, HXp⟩ : ∃ R, Hid ((mvL x m k) k = R) := ⟨_, Lib.hid (Eq.refl _)⟩
              obtain ⟨Y, HYq⟩ : ∃ R, Hid ((mvL x m k) q = R) := ⟨_, Lib.hid (Eq.refl _)⟩
              rw [HXp.out] at hc1 hs1 hS
              rw [HYq.out] at hc2 hs2 hS
              obtain ⟨k1, a1, n1, c1⟩ := X
              obtain ⟨k2, a2, n2, c2⟩ := Y
              unfold Pr.s at hs1 hs2 hS
              dsimp only at hc1 hs1 hc2 hs2 hS
              have HPS : Hid (∀ z0, PB (((((wr.setCell ⟨g, k * 2, none⟩ (.int .i64 k2)).setCell ⟨g, k * 2 + 1, none⟩ (.slice a2 n2 c2)).setCell ⟨g, q * 2, none⟩ (.int .i64 k1)).setCell ⟨g, q * 2 + 1, none⟩ (.slice a1 n1 c1)).drewN z0) g C (mvL x m q)) := fun z0 => hS
              have HGS : Hid (∀ z0, Ch1 w (((((wr.setCell ⟨g, k * 2, none⟩ (.int .i64 k2)).setCell ⟨g, k * 2 + 1, none⟩ (.slice a2 n2 c2)).setCell ⟨g, q * 2, none⟩ (.int .i64 k1)).setCell ⟨g, q * 2 + 1, none⟩ (.slice a1 n1 c1)).drewN z0) g) := fun z0 =>
                ((((HG.out.set _ _).set _ _).set _ _).set _ _).drewN z0
              clear hS HX HG hqv hnx HXp HYq
              go_wp2_with fail
              go_region
              all_goals
                go_wp2_with fail
                go_roundw
                case rel => exact ⟨q, hqi, hqm, by first | rfl | go_num, HPS.out 1, HGS.out 1⟩
                case measure => simp [intOf]; omega
            · obtain rfl : i = k := by omega
              have d2 : decide ((i : Int) < (i : Int)) = false := by rw [decide_eq_false_iff_not]; omega
              go_wp2_with fail
              (try simp only [Exit.inBlock, Exit.then]); refine bodyPost_end (results_none rfl _ _ _) rfl ?_
              have hbv := Hb.out
              refine ⟨rfl, HG.out, mvL x m i, HX.out, HK.out.mvL m i (by omega), ?_, fun p hp => ?_⟩
              · rw [← hbv]
                exact sm_last x a m i hi hk2 HI.out.1 HI.out.2
              · unfold mvL
                rw [if_neg (by omega), if_neg (by omega)]
    · obtain ⟨ma, Hma⟩ : ∃ R, Hid (m - a = R) := ⟨_, Lib.hid (Eq.refl _)⟩
      have hmav := Hma.out
      have e2 : IntKind.i64.wrap ((m : Int) - (a : Int)) = (ma : Int) := by rw [IntKind.wrap_i64]; omega
      have e3 : ((ma : Int) == 1) = false := by simp; omega
      obtain ⟨bm, Hbm⟩ : ∃ R, Hid (b - m = R) := ⟨_, Lib.hid (Eq.refl _)⟩
      have hbmv := Hbm.out
      have e4 : IntKind.i64.wrap ((b : Int) - (m : Int)) = (bm : Int) := by rw [IntKind.wrap_i64]; omega
      have e5 : ((bm : Int) == 1) = false := by simp; omega
      obtain ⟨s, Hs⟩ : ∃ R, Hid (a + b = R) := ⟨_, Lib.hid (Eq.refl _)⟩
      have hsv := Hs.out
      have w1 : IntKind.i64.wrap ((a : Int) + (b : Int)) = (s : Int) := by rw [IntKind.wrap_i64]; omega
      have w2 := half_wrap s (by omega)
      obtain ⟨mid, Hmid⟩ : ∃ R, Hid (s / 2 = R) := ⟨_, Lib.hid (Eq.refl _)⟩
      have hmv := Hmid.out
      have w3 : (s : Int) / 2 = (mid : Int) := by omega
      have w3b : IntKind.i64.wrap (mid : Int) = (mid : Int) := by rw [IntKind.wrap_i64]; omega
      have w3c : IntKind.u64.wrap (mid : Int) = (mid : Int) := half_wrap mid (by omega)
      have hm1 : a < mid := by omega
      have hm2 : mid < b := by omega
      obtain ⟨n, Hn⟩ : ∃ R, Hid (mid + m = R) := ⟨_, Lib.hid (Eq.refl _)⟩
      have hnv := Hn.out
      have w4 : IntKind.i64.wrap ((mid : Int) + (m : Int)) = (n : Int) := by rw [IntKind.wrap_i64]; omega
      obtain ⟨p, Hp⟩ : ∃ R, Hid (n - 1 = R) := ⟨_, Lib.hid (Eq.refl _)⟩
      have hpv := Hp.out
      have w5 : IntKind.i64.wrap ((n : Int) - 1) = (p : Int) := by rw [IntKind.wrap_i64]; omega
      clear hmav hbmv hpv
      obtain ⟨lo, hi, hcs, hl2, Hlo2, Hhi3, hl4, hlh, hhi1, hhi2⟩ : ∃ lo hi : Nat, ((decide ((mid : Int) < (m : Int)) = true ∧ decide (mid < m) = true ∧ IntKind.i64.wrap ((n : Int) - (b : Int)) = (lo : Int) ∧ mid = hi) ∨ (decide ((mid : Int) < (m : Int)) = false ∧ decide (mid < m) = false ∧ a = lo ∧ m = hi)) ∧ a ≤ lo ∧ Hid (lo = a ∨ lo + b = mid + m) ∧ Hid (hi = m ∨ hi = mid) ∧ n ≤ lo + b ∧ lo ≤ hi ∧ hi ≤ m ∧ hi ≤ mid := by
        by_cases hmm : mid < m
        · exact ⟨n - b, mid, .inl ⟨decide_eq_true (by omega), decide_eq_true hmm, by rw [IntKind.wrap_i64]; omega, rfl⟩, by omega, .inr (by omega), .inr rfl, by omega, by omega, by omega, by omega⟩
        · exact ⟨a, m, .inr ⟨decide_eq_false (by omega), decide_eq_false hmm, rfl, rfl⟩, by omega, .inl rfl, .inl rfl, by omega, by omega, by omega, by omega⟩
      clear hnv hsv hmv
      rcases hcs with ⟨d0, d0b, w6, hh0⟩ | ⟨d0, d0b, hh1, hh0⟩
      all_goals
        have Hh0 := Lib.hid hh0
        try have Hh1 := Lib.hid hh1
        try clear hh1
        clear hh0
        go_enter Try.func33, Try.ntmps33
        go_wp2_with fail
        go_loopw [20, 21] (fun s_ r_ wr => ∃ st r : Nat, lo ≤ st ∧ st ≤ r ∧ r ≤ hi ∧ s_ = .int .i64 (st : Int) ∧ r_ = .int .i64 (r : Int) ∧ Hid (PB wr g C x) ∧ Hid (Ch1 w wr g) ∧ Hid (st = lo ∨ (lo < st ∧ (x (st - 1)).k ≤ (x (n - st)).k)) ∧ Hid (r = hi ∨ (x (n - r - 1)).k < (x r).k)) (fun s r _ => (intOf r).toNat - (intOf s).toNat)
        case atStart => first | exact ⟨lo, mid, Nat.le_refl _, by have := Hh0.out; omega, by have := Hh0.out; omega, rfl, rfl, HX, HG, .inl rfl, .inl Hh0.out⟩ | exact ⟨lo, hi, Nat.le_refl _, hlh, Nat.le_refl _, by rw [← Hh1.out], by rw [← Hh0.out], HX, HG, .inl rfl, .inl rfl⟩
        case round =>
          clear HX HG
          obtain ⟨st, r, hst, hsr, hr, rfl, rfl, HX, HG, HA, HBr⟩ := hrel
          have hnv := Hn.out
          have hpv := Hp.out
          have hhi := Hhi3.out
          by_cases hlt : st < r
          · have d1 : decide ((st : Int) < (r : Int)) = true := by rw [decide_eq_true_eq]; omega
            have d1b : decide (st < r) = true := by rw [decide_eq_true_eq]; omega
            obtain ⟨s2, Hs2⟩ : ∃ R, Hid (st + r = R) := ⟨_, Lib.hid (Eq.refl _)⟩
            have hsv := Hs2.out
            have v1 : IntKind.i64.wrap ((st : Int) + (r : Int)) = (s2 : Int) := by rw [IntKind.wrap_i64]; omega
            have v2 := half_wrap s2 (by omega)
            obtain ⟨c, Hh⟩ : ∃ R, Hid (s2 / 2 = R) := ⟨_, Lib.hid (Eq.refl _)⟩
            have hhv := Hh.out
            have v3 : (s2 : Int) / 2 = (c : Int) := by omega
            have v3b : IntKind.i64.wrap (c : Int) = (c : Int) := by rw [IntKind.wrap_i64]; omega
            have v3c : IntKind.u64.wrap (c : Int) = (c : Int) := half_wrap c (by omega)
            have hh1 : st ≤ c := by omega
            have hh2 : c < r := by omega
            clear hsv hhv
            obtain ⟨q, Hq⟩ : ∃ R, Hid (p - c = R) := ⟨_, Lib.hid (Eq.refl _)⟩
            have hqv := Hq.out
            have w7 : IntKind.i64.wrap ((p : Int) - (c : Int)) = (q : Int) := by rw [IntKind.wrap_i64]; omega
            have hq1 : q < b := by omega
            have hPN : (q : Int) < (N : Int) := by omega
            have hQN : (c : Int) < (N : Int) := by omega
            have hc1 := HX.out.k q (by omega)
            have hs1 := HX.out.s q (by omega)
            have hc2 := HX.out.k c (by omega)
            have hs2 := HX.out.s c (by omega)
            have hb1 := HK.out q (by omega)
            have hb2 := HK.out c (by omega)
            obtain ⟨X, HXp⟩ : ∃ R, Hid (x q = R) := ⟨_, Lib.hid (Eq.refl _)⟩
            obtain ⟨Y, HYq⟩ : ∃ R, Hid (x c = R) := ⟨_, Lib.hid (Eq.refl _)⟩
            rw [HXp.out] at hc1 hs1 hb1
            rw [HYq.out] at hc2 hs2 hb2
            obtain ⟨k1, a1, n1, c1⟩ := X
            obtain ⟨k2, a2, n2, c2⟩ := Y
            unfold Pr.s at hs1 hs2
            dsimp only at hc1 hs1 hb1 hc2 hs2 hb2
            have CC := Lib.hid (fun W => weigh_any k1 k2 (.slice a1 n1 c1) (.slice a2 n2 c2) hb1 hb2 W)
            have hgl : g < wr.drew.heap.size := PB.lt HX.out
            have hc1d : wr.drew.cell? ⟨g, q * 2, none⟩ = some (.int .i64 k1) := hc1
            have hs1d : wr.drew.cell? ⟨g, q * 2 + 1, none⟩ = some (.slice a1 n1 c1) := hs1
            have hc2d : wr.drew.cell? ⟨g, c * 2, none⟩ = some (.int .i64 k2) := hc2
            have hs2d : wr.drew.cell? ⟨g, c * 2 + 1, none⟩ = some (.slice a2 n2 c2) := hs2
            by_cases hk : k1 < k2
            · have d3 : decide (k1 - k2 < 0) = true := by rw [decide_eq_true_eq]; omega
              have HB2 : Hid (c = hi ∨ (x (n - c - 1)).k < (x c).k) := by
                refine .inr ?_
                rw [show n - c - 1 = q by omega, HXp.out, HYq.out]
                exact hk
              clear HBr hnv hpv hqv hhi hq1
              go_wp2_with fail
              go_region_held3 (fun W => W.cell? ⟨g, q * 2, none⟩ = some (.int .i64 k1) ∧ W.cell? ⟨g, q * 2 + 1, none⟩ = some (.slice a1 n1 c1) ∧ W.cell? ⟨g, c * 2, none⟩ = some (.int .i64 k2) ∧ W.cell? ⟨g, c * 2 + 1, none⟩ = some (.slice a2 n2 c2))
                (first | exact ⟨by assumption, by assumption, by assumption, by assumption⟩ | go_keep)
                (first
                  | (go_at_call 23; refine (CC.out _).mono ?_; rintro e w8 ⟨rfl, hb8⟩; have hP8 : PB w8 g C x := (show PB wr.drew g C x from HX.out).below hb8 hgl; have hG8 : Ch1 w w8 g := Ch1.below HG.out.drew hb8; have q1 := (hb8.cell (p := ⟨g, q * 2, none⟩) hgl).trans hc1d; have q2 := (hb8.cell (p := ⟨g, q * 2 + 1, none⟩) hgl).trans hs1d; have q3 := (hb8.cell (p := ⟨g, c * 2, none⟩) hgl).trans hc2d; have q4 := (hb8.cell (p := ⟨g, c * 2 + 1, none⟩) hgl).trans hs2d))
              rename_i hh
              have HP8 := Lib.hid hP8
              have HG8 := Lib.hid hG8
              clear hh hb8 hP8 hG8 hgl hc1 hs1 hc2 hs2 hc1d hs1d hc2d hs2d CC HX HG q1 q2 q3 q4
              go_wp2_with fail
              go_roundw
              case rel => exact ⟨st, c, by omega, by omega, by omega, rfl, by first | rfl | go_num, HP8, HG8, HA, HB2⟩
              case measure => simp [intOf]; omega
            · have d3 : decide (k1 - k2 < 0) = false := by rw [decide_eq_false_iff_not]; omega
              have HA2 : Hid (c + 1 = lo ∨ (lo < c + 1 ∧ (x (c + 1 - 1)).k ≤ (x (n - (c + 1))).k)) := by
                refine .inr ⟨by omega, ?_⟩
                rw [show n - (c + 1) = q by omega, show c + 1 - 1 = c by omega, HXp.out, HYq.out]
                exact Int.not_lt.1 hk
              clear HA hnv hpv hqv hhi hq1
              go_wp2_with fail
              go_region_held3 (fun W => W.cell? ⟨g, q * 2, none⟩ = some (.int .i64 k1) ∧ W.cell? ⟨g, q * 2 + 1, none⟩ = some (.slice a1 n1 c1) ∧ W.cell? ⟨g, c * 2, none⟩ = some (.int .i64 k2) ∧ W.cell? ⟨g, c * 2 + 1, none⟩ = some (.slice a2 n2 c2))
                (first | exact ⟨by assumption, by assumption, by assumption, by assumption⟩ | go_keep)
                (first
                  | (go_at_call 23; refine (CC.out _).mono ?_; rintro e w8 ⟨rfl, hb8⟩; have hP8 : PB w8 g C x := (show PB wr.drew g C x from HX.out).below hb8 hgl; have hG8 : Ch1 w w8 g := Ch1.below HG.out.drew hb8; have q1 := (hb8.cell (p := ⟨g, q * 2, none⟩) hgl).trans hc1d; have q2 := (hb8.cell (p := ⟨g, q * 2 + 1, none⟩) hgl).trans hs1d; have q3 := (hb8.cell (p := ⟨g, c * 2, none⟩) hgl).trans hc2d; have q4 := (hb8.cell (p := ⟨g, c * 2 + 1, none⟩) hgl).trans hs2d))
              rename_i hh
              have HP8 := Lib.hid hP8
              have HG8 := Lib.hid hG8
              clear hh hb8 hP8 hG8 hgl hc1 hs1 hc2 hs2 hc1d hs1d hc2d hs2d CC HX HG q1 q2 q3 q4
              go_wp2_with fail
              go_roundw
              case rel => exact ⟨c + 1, r, by omega, by omega, by omega, by go_num, rfl, HP8, HG8, HA2, HBr⟩
              case measure => simp [intOf]; omega
          · obtain rfl : st = r := by omega
            have d1 : decide ((st : Int) < (st : Int)) = false := by rw [decide_eq_false_iff_not]; omega
            obtain ⟨en, Hen⟩ : ∃ R, Hid (n - st = R) := ⟨_, Lib.hid (Eq.refl _)⟩
            have henv := Hen.out
            have w8 : IntKind.i64.wrap ((n : Int) - (st : Int)) = (en : Int) := by rw [IntKind.wrap_i64]; omega
            have hstm : st ≤ m := by omega
            have hast : a ≤ st := by omega
            have hme : m ≤ en := by omega
            have heb : en ≤ b := by omega
            have hstmid : st ≤ mid := by omega
            have hmiden : mid ≤ en := by omega
            have hpar := sm_parts x a m b st mid en lo hi hstm hast hme heb (by omega) HS1.out HS2.out (by have := Hlo2.out; omega) hhi (by rw [← henv]; exact HA.out) (by
              have h := HBr.out
              rw [henv] at h
              exact h)
            obtain ⟨z1, z2, z3, z4, z5⟩ := hpar
            obtain ⟨y, Hy⟩ : ∃ R, Hid (rot x st m en = R) := ⟨_, Lib.hid (Eq.refl _)⟩
            have hyK : KB y C := by rw [← Hy.out]; exact HK.out.rot st m en hstm hme (by omega)
            have hyo : ∀ p, (p < a ∨ b ≤ p) → y p = x p := fun p hp => by
              rw [← Hy.out]
              unfold rot
              rw [if_neg (by omega), if_neg (by omega)]
            rw [Hy.out] at z1 z2 z3 z4
            have HyK := Lib.hid hyK
            have Hyo := Lib.hid hyo
            have Z1 := Lib.hid z1
            have Z2 := Lib.hid z2
            have Z3 := Lib.hid z3
            have Z4 := Lib.hid z4
            have Z5 := Lib.hid z5
            have HL1 := Lib.hid (sub_srt HS1.out (Nat.le_refl a) hstm)
            have HL2 := Lib.hid (sub_srt HS1.out hast (Nat.le_refl m))
            have HR1 := Lib.hid (sub_srt HS2.out (Nat.le_refl m) heb)
            have HR2 := Lib.hid (sub_srt HS2.out hme (Nat.le_refl b))
            clear hyK hyo z1 z2 z3 z4 z5 HA HBr hnv hpv henv hhi
            -- the turning
            have KEY : Hid (∀ W, PB W g C y → Ch1 w W g → ∀ Q : World → Prop, (∀ W' yf, PB W' g C yf → KB yf C → Ch1 w W' g → seg yf a mid = mrg pk (seg x a st) (seg x m en) → (∀ p, (p < a ∨ mid ≤ p) → yf p = y p) → Q W') → (st = a ∨ st = mid) → Q W) := by
              intro W h1 h2 Q hQ hor
              refine hQ W y h1 HyK.out h2 ?_ (fun _ _ => rfl)
              rw [seg_app y a st mid hast hstmid, Z1.out, Z2.out]
              rcases hor with h | h
              · rw [seg_self x a st (by omega), mrg_nil]; rfl
              · have e : en = m := by have := Hen.out; have := Hn.out; omega
                rw [seg_self x m en (by omega), mrg_nil', List.append_nil]
            have KEY2 : Hid (∀ (yf yg : Nat → Pr), seg yf a mid = mrg pk (seg x a st) (seg x m en) → (∀ p, (p < a ∨ mid ≤ p) → yf p = y p) → seg yg mid b = mrg pk (seg x st m) (seg x en b) → (∀ p, (p < mid ∨ b ≤ p) → yg p = yf p) → seg yg a b = mrg pk (seg x a m) (seg x m b) ∧ ∀ p, (p < a ∨ b ≤ p) → yg p = x p) := by
              intro yf yg h1 h2 h3 h4
              refine ⟨?_, fun p hp => ?_⟩
              · have e : seg yg a mid = seg yf a mid := seg_like _ _ _ _ _ _ rfl fun k hk => h4 (a + k) (by omega)
                rw [seg_app yg a mid b (by omega) (by omega), e, h1, h3, Z5.out]
              · rw [h4 p (by omega), h2 p (by omega), Hyo.out p hp]
            have KEY3 : Hid (∀ (yf : Nat → Pr), seg yf a mid = mrg pk (seg x a st) (seg x m en) → (∀ p, (p < a ∨ mid ≤ p) → yf p = y p) → (en = mid ∨ en = b) → seg yf mid b = mrg pk (seg x st m) (seg x en b)) := by
              intro yf h1 h2 hor
              have e : seg yf mid b = seg y mid b := seg_like _ _ _ _ _ _ rfl fun k hk => h2 (mid + k) (by omega)
              rw [e, seg_app y mid en b hmiden heb, Z3.out, Z4.out]
              rcases hor with h | h
              · have e : st = m := by have := Hen.out; have := Hn.out; omega
                rw [seg_self x st m (by omega), mrg_nil]; rfl
              · rw [seg_self x en b (by omega), mrg_nil', List.append_nil]
            have KEY4 : Hid (∀ (yf : Nat → Pr), (∀ p, (p < a ∨ mid ≤ p) → yf p = y p) → seg yf mid en = seg x st m ∧ seg yf en b = seg x en b) := by
              intro yf h2
              refine ⟨?_, ?_⟩
              · rw [← Z3.out]; exact seg_like _ _ _ _ _ _ rfl fun k hk => h2 (mid + k) (by omega)
              · rw [← Z4.out]; exact seg_like _ _ _ _ _ _ rfl fun k hk => h2 (en + k) (by omega)
            clear Z3 Z4 Z5 Hyo
            by_cases h1 : st < m ∧ m < en
            · have d3 : decide ((st : Int) < (m : Int)) = true := by rw [decide_eq_true_eq]; omega
              have d3b : decide (st < m) = true := by rw [decide_eq_true_eq]; omega
              have d4 : decide ((m : Int) < (en : Int)) = true := by rw [decide_eq_true_eq]; omega
              have d4b : decide (m < en) = true := by rw [decide_eq_true_eq]; omega
              have CR := Lib.hid (rotate_any (.func (.func 23) #[] #[]) g C N cap st m en h1.1 h1.2 (by omega) hN hC x wr HX.out)
              rw [Hy.out] at CR
              clear h1 HX
              go_wp2_with fail
              refine CR.out.mono ?_
              rintro e W0 ⟨rfl, hg7, hp7⟩
              have HyG := Lib.hid (HG.out.trans hg7)
              have HyP := Lib.hid hp7
              clear hg7 hp7 CR HG
              by_cases h3 : a < st ∧ st < mid
              · have d5 : decide ((a : Int) < (st : Int)) = true := by rw [decide_eq_true_eq]; omega
                have d5b : decide (a < st) = true := by rw [decide_eq_true_eq]; omega
                have d6 : decide ((st : Int) < (mid : Int)) = true := by rw [decide_eq_true_eq]; omega
                have d6b : decide (st < mid) = true := by rw [decide_eq_true_eq]; omega
                have CM := Lib.hid (fun W h => IH.out a st mid y W (by omega) h3.1 h3.2 (by omega) HyK.out h (by rw [Z1.out]; exact HL1.out) (by rw [Z2.out]; exact HR1.out))
                clear h3
                go_wp2_with fail
                refine (CM.out _ HyP.out).mono ?_
                rintro e wa ⟨rfl, hg8, yf, hp8, hk8, hs8, ho8⟩
                rw [Z1.out, Z2.out] at hs8
                have HyfG := Lib.hid (HyG.out.trans hg8)
                have HyfP := Lib.hid hp8
                have HyfK := Lib.hid hk8
                have Hyf1 := Lib.hid hs8
                have Hyf2 := Lib.hid ho8
                clear hg8 hp8 hk8 hs8 ho8 CM HyP HyG
                by_cases h5 : mid < en ∧ en < b
                · have d7 : decide ((mid : Int) < (en : Int)) = true := by rw [decide_eq_true_eq]; omega
                  have d7b : decide (mid < en) = true := by rw [decide_eq_true_eq]; omega
                  have d8 : decide ((en : Int) < (b : Int)) = true := by rw [decide_eq_true_eq]; omega
                  have d8b : decide (en < b) = true := by rw [decide_eq_true_eq]; omega
                  obtain ⟨k4a, k4b⟩ := KEY4.out yf Hyf2.out
                  have CM := Lib.hid (fun W h => IH.out mid en b yf W (by omega) h5.1 h5.2 hbN HyfK.out h (by rw [k4a]; exact HL2.out) (by rw [k4b]; exact HR2.out))
                  have K4a := Lib.hid k4a
                  have K4b := Lib.hid k4b
                  clear h5 k4a k4b
                  go_wp2_with fail
                  refine (CM.out _ HyfP.out).mono ?_
                  rintro e wb ⟨rfl, hg9, yg, hp9, hk9, hs9, ho9⟩
                  rw [K4a.out, K4b.out] at hs9
                  have HG9 := Lib.hid (HyfG.out.trans hg9)
                  have HP9 := Lib.hid hp9
                  have HK9 := Lib.hid hk9
                  have HS9 := Lib.hid hs9
                  have HO9 := Lib.hid ho9
                  clear hg9 hp9 hk9 hs9 ho9
                  go_wp2_with fail
                  (try simp only [Exit.inBlock, Exit.then]); refine bodyPost_end (results_none rfl _ _ _) rfl ?_
                  exact ⟨rfl, HG9.out, yg, HP9.out, HK9.out, KEY2.out yf yg Hyf1.out Hyf2.out HS9.out HO9.out⟩
                · have hor : en = mid ∨ en = b := by omega
                  have HS9 := Lib.hid (KEY3.out yf Hyf1.out Hyf2.out hor)
                  have HFin := Lib.hid (KEY2.out yf yf Hyf1.out Hyf2.out HS9.out (fun _ _ => rfl))
                  have h78 : (decide ((mid : Int) < (en : Int)) = true ∧ decide (mid < en) = true ∧ decide ((en : Int) < (b : Int)) = false ∧ decide (en < b) = false) ∨ (decide ((mid : Int) < (en : Int)) = false ∧ decide (mid < en) = false) := by
                    by_cases h6 : mid < en
                    · exact .inl ⟨decide_eq_true (by omega), decide_eq_true h6, decide_eq_false (by omega), decide_eq_false (by omega)⟩
                    · exact .inr ⟨decide_eq_false (by omega), decide_eq_false h6⟩
                  clear h5 hor
                  rcases h78 with ⟨d7, d7b, d8, d8b⟩ | ⟨d7, d7b⟩
                  all_goals
                    go_wp2_with fail
                    (try simp only [Exit.inBlock, Exit.then]); refine bodyPost_end (results_none rfl _ _ _) rfl ?_
                    exact ⟨rfl, HyfG.out, yf, HyfP.out, HyfK.out, HFin.out⟩
              · have hor : st = a ∨ st = mid := by omega
                obtain ⟨yf, Hyf1, Hyf2, HyfK, HyfP, HyfG⟩ : ∃ yf, Hid (seg yf a mid = mrg pk (seg x a st) (seg x m en)) ∧ Hid (∀ p, (p < a ∨ mid ≤ p) → yf p = y p) ∧ Hid (KB yf C) ∧ Hid (PB W0 g C yf) ∧ Hid (Ch1 w W0 g) :=
                  ⟨y, KEY.out W0 HyP.out HyG.out (fun _ => seg y a mid = mrg pk (seg x a st) (seg x m en)) (fun W' yf _ _ _ _ _ => by
                    rw [seg_app y a st mid hast hstmid, Z1.out, Z2.out]
                    rcases hor with h | h
                    · rw [seg_self x a st (by omega), mrg_nil]; rfl
                    · have e : en = m := by have := Hen.out; have := Hn.out; omega
                      rw [seg_self x m en (by omega), mrg_nil', List.append_nil]) hor, fun _ _ => rfl, HyK.out, HyP.out, HyG.out⟩
                clear HyP HyG
                have h56 : (decide ((a : Int) < (st : Int)) = true ∧ decide (a < st) = true ∧ decide ((st : Int) < (mid : Int)) = false ∧ decide (st < mid) = false) ∨ (decide ((a : Int) < (st : Int)) = false ∧ decide (a < st) = false) := by
                  by_cases h4 : a < st
                  · exact .inl ⟨decide_eq_true (by omega), decide_eq_true h4, decide_eq_false (by omega), decide_eq_false (by omega)⟩
                  · exact .inr ⟨decide_eq_false (by omega), decide_eq_false h4⟩
                clear h3 hor
                rcases h56 with ⟨d5, d5b, d6, d6b⟩ | ⟨d5, d5b⟩
                all_goals
                  by_cases h5 : mid < en ∧ en < b
                  · have d7 : decide ((mid : Int) < (en : Int)) = true := by rw [decide_eq_true_eq]; omega
                    have d7b : decide (mid < en) = true := by rw [decide_eq_true_eq]; omega
                    have d8 : decide ((en : Int) < (b : Int)) = true := by rw [decide_eq_true_eq]; omega
                    have d8b : decide (en < b) = true := by rw [decide_eq_true_eq]; omega
                    obtain ⟨k4a, k4b⟩ := KEY4.out yf Hyf2.out
                    have CM := Lib.hid (fun W h => IH.out mid en b yf W (by omega) h5.1 h5.2 hbN HyfK.out h (by rw [k4a]; exact HL2.out) (by rw [k4b]; exact HR2.out))
                    have K4a := Lib.hid k4a
                    have K4b := Lib.hid k4b
                    clear h5 k4a k4b
                    go_wp2_with fail
                    refine (CM.out _ HyfP.out).mono ?_
                    rintro e wb ⟨rfl, hg9, yg, hp9, hk9, hs9, ho9⟩
                    rw [K4a.out, K4b.out] at hs9
                    have HG9 := Lib.hid (HyfG.out.trans hg9)
                    have HP9 := Lib.hid hp9
                    have HK9 := Lib.hid hk9
                    have HS9 := Lib.hid hs9
                    have HO9 := Lib.hid ho9
                    clear hg9 hp9 hk9 hs9 ho9
                    go_wp2_with fail
                    (try simp only [Exit.inBlock, Exit.then]); refine bodyPost_end (results_none rfl _ _ _) rfl ?_
                    exact ⟨rfl, HG9.out, yg, HP9.out, HK9.out, KEY2.out yf yg Hyf1.out Hyf2.out HS9.out HO9.out⟩
                  · have hor : en = mid ∨ en = b := by omega
                    have HS9 := Lib.hid (KEY3.out yf Hyf1.out Hyf2.out hor)
                    have HFin := Lib.hid (KEY2.out yf yf Hyf1.out Hyf2.out HS9.out (fun _ _ => rfl))
                    have h78 : (decide ((mid : Int) < (en : Int)) = true ∧ decide (mid < en) = true ∧ decide ((en : Int) < (b : Int)) = false ∧ decide (en < b) = false) ∨ (decide ((mid : Int) < (en : Int)) = false ∧ decide (mid < en) = false) := by
                      by_cases h6 : mid < en
                      · exact .inl ⟨decide_eq_true (by omega), decide_eq_true h6, decide_eq_false (by omega), decide_eq_false (by omega)⟩
                      · exact .inr ⟨decide_eq_false (by omega), decide_eq_false h6⟩
                    clear h5 hor
                    rcases h78 with ⟨d7, d7b, d8, d8b⟩ | ⟨d7, d7b⟩
                    all_goals
                      go_wp2_with fail
                      (try simp only [Exit.inBlock, Exit.then]); refine bodyPost_end (results_none rfl _ _ _) rfl ?_
                      exact ⟨rfl, HyfG.out, yf, HyfP.out, HyfK.out, HFin.out⟩
            · have hyx : rot x st m en = x := rot_trivial x st m en (by omega)
              obtain ⟨W0, HW0⟩ : ∃ R, Hid (wr = R) := ⟨_, Lib.hid (Eq.refl _)⟩
              rw [HW0.out] at HX HG ⊢
              have HyP : Hid (PB W0 g C y) := by rw [← Hy.out, hyx]; exact HX
              have HyG := HG
              clear HX HG hyx
              have h34 : (decide ((st : Int) < (m : Int)) = true ∧ decide (st < m) = true ∧ decide ((m : Int) < (en : Int)) = false ∧ decide (m < en) = false) ∨ (decide ((st : Int) < (m : Int)) = false ∧ decide (st < m) = false) := by
                by_cases h2 : st < m
                · exact .inl ⟨decide_eq_true (by omega), decide_eq_true h2, decide_eq_false (by omega), decide_eq_false (by omega)⟩
                · exact .inr ⟨decide_eq_false (by omega), decide_eq_false h2⟩
              clear h1
              rcases h34 with ⟨d3, d3b, d4, d4b⟩ | ⟨d3, d3b⟩
              all_goals
                by_cases h3 : a < st ∧ st < mid
                · have d5 : decide ((a : Int) < (st : Int)) = true := by rw [decide_eq_true_eq]; omega
                  have d5b : decide (a < st) = true := by rw [decide_eq_true_eq]; omega
                  have d6 : decide ((st : Int) < (mid : Int)) = true := by rw [decide_eq_true_eq]; omega
                  have d6b : decide (st < mid) = true := by rw [decide_eq_true_eq]; omega
                  have CM := Lib.hid (fun W h => IH.out a st mid y W (by omega) h3.1 h3.2 (by omega) HyK.out h (by rw [Z1.out]; exact HL1.out) (by rw [Z2.out]; exact HR1.out))
                  clear h3
                  go_wp2_with fail
                  refine (CM.out _ HyP.out).mono ?_
                  rintro e wa ⟨rfl, hg8, yf, hp8, hk8, hs8, ho8⟩
                  rw [Z1.out, Z2.out] at hs8
                  have HyfG := Lib.hid (HyG.out.trans hg8)
                  have HyfP := Lib.hid hp8
                  have HyfK := Lib.hid hk8
                  have Hyf1 := Lib.hid hs8
                  have Hyf2 := Lib.hid ho8
                  clear hg8 hp8 hk8 hs8 ho8 CM HyP HyG
                  by_cases h5 : mid < en ∧ en < b
                  · have d7 : decide ((mid : Int) < (en : Int)) = true := by rw [decide_eq_true_eq]; omega
                    have d7b : decide (mid < en) = true := by rw [decide_eq_true_eq]; omega
                    have d8 : decide ((en : Int) < (b : Int)) = true := by rw [decide_eq_true_eq]; omega
                    have d8b : decide (en < b) = true := by rw [decide_eq_true_eq]; omega
                    obtain ⟨k4a, k4b⟩ := KEY4.out yf Hyf2.out
                    have CM := Lib.hid (fun W h => IH.out mid en b yf W (by omega) h5.1 h5.2 hbN HyfK.out h (by rw [k4a]; exact HL2.out) (by rw [k4b]; exact HR2.out))
                    have K4a := Lib.hid k4a
                    have K4b := Lib.hid k4b
                    clear h5 k4a k4b
                    go_wp2_with fail
                    refine (CM.out _ HyfP.out).mono ?_
                    rintro e wb ⟨rfl, hg9, yg, hp9, hk9, hs9, ho9⟩
                    rw [K4a.out, K4b.out] at hs9
                    have HG9 := Lib.hid (HyfG.out.trans hg9)
                    have HP9 := Lib.hid hp9
                    have HK9 := Lib.hid hk9
                    have HS9 := Lib.hid hs9
                    have HO9 := Lib.hid ho9
                    clear hg9 hp9 hk9 hs9 ho9
                    go_wp2_with fail
                    (try simp only [Exit.inBlock, Exit.then]); refine bodyPost_end (results_none rfl _ _ _) rfl ?_
                    exact ⟨rfl, HG9.out, yg, HP9.out, HK9.out, KEY2.out yf yg Hyf1.out Hyf2.out HS9.out HO9.out⟩
                  · have hor : en = mid ∨ en = b := by omega
                    have HS9 := Lib.hid (KEY3.out yf Hyf1.out Hyf2.out hor)
                    have HFin := Lib.hid (KEY2.out yf yf Hyf1.out Hyf2.out HS9.out (fun _ _ => rfl))
                    have h78 : (decide ((mid : Int) < (en : Int)) = true ∧ decide (mid < en) = true ∧ decide ((en : Int) < (b : Int)) = false ∧ decide (en < b) = false) ∨ (decide ((mid : Int) < (en : Int)) = false ∧ decide (mid < en) = false) := by
                      by_cases h6 : mid < en
                      · exact .inl ⟨decide_eq_true (by omega), decide_eq_true h6, decide_eq_false (by omega), decide_eq_false (by omega)⟩
                      · exact .inr ⟨decide_eq_false (by omega), decide_eq_false h6⟩
                    clear h5 hor
                    rcases h78 with ⟨d7, d7b, d8, d8b⟩ | ⟨d7, d7b⟩
                    all_goals
                      go_wp2_with fail
                      (try simp only [Exit.inBlock, Exit.then]); refine bodyPost_end (results_none rfl _ _ _) rfl ?_
                      exact ⟨rfl, HyfG.out, yf, HyfP.out, HyfK.out, HFin.out⟩
                · have hor : st = a ∨ st = mid := by omega
                  obtain ⟨yf, Hyf1, Hyf2, HyfK, HyfP, HyfG⟩ : ∃ yf, Hid (seg yf a mid = mrg pk (seg x a st) (seg x m en)) ∧ Hid (∀ p, (p < a ∨ mid ≤ p) → yf p = y p) ∧ Hid (KB yf C) ∧ Hid (PB W0 g C yf) ∧ Hid (Ch1 w W0 g) :=
                    ⟨y, KEY.out W0 HyP.out HyG.out (fun _ => seg y a mid = mrg pk (seg x a st) (seg x m en)) (fun W' yf _ _ _ _ _ => by
                      rw [seg_app y a st mid hast hstmid, Z1.out, Z2.out]
                      rcases hor with h | h
                      · rw [seg_self x a st (by omega), mrg_nil]; rfl
                      · have e : en = m := by have := Hen.out; have := Hn.out; omega
                        rw [seg_self x m en (by omega), mrg_nil', List.append_nil]) hor, fun _ _ => rfl, HyK.out, HyP.out, HyG.out⟩
                  clear HyP HyG
                  have h56 : (decide ((a : Int) < (st : Int)) = true ∧ decide (a < st) = true ∧ decide ((st : Int) < (mid : Int)) = false ∧ decide (st < mid) = false) ∨ (decide ((a : Int) < (st : Int)) = false ∧ decide (a < st) = false) := by
                    by_cases h4 : a < st
                    · exact .inl ⟨decide_eq_true (by omega), decide_eq_true h4, decide_eq_false (by omega), decide_eq_false (by omega)⟩
                    · exact .inr ⟨decide_eq_false (by omega), decide_eq_false h4⟩
                  clear h3 hor
                  rcases h56 with ⟨d5, d5b, d6, d6b⟩ | ⟨d5, d5b⟩
                  all_goals
                    by_cases h5 : mid < en ∧ en < b
                    · have d7 : decide ((mid : Int) < (en : Int)) = true := by rw [decide_eq_true_eq]; omega
                      have d7b : decide (mid < en) = true := by rw [decide_eq_true_eq]; omega
                      have d8 : decide ((en : Int) < (b : Int)) = true := by rw [decide_eq_true_eq]; omega
                      have d8b : decide (en < b) = true := by rw [decide_eq_true_eq]; omega
                      obtain ⟨k4a, k4b⟩ := KEY4.out yf Hyf2.out
                      have CM := Lib.hid (fun W h => IH.out mid en b yf W (by omega) h5.1 h5.2 hbN HyfK.out h (by rw [k4a]; exact HL2.out) (by rw [k4b]; exact HR2.out))
                      have K4a := Lib.hid k4a
                      have K4b := Lib.hid k4b
                      clear h5 k4a k4b
                      go_wp2_with fail
                      refine (CM.out _ HyfP.out).mono ?_
                      rintro e wb ⟨rfl, hg9, yg, hp9, hk9, hs9, ho9⟩
                      rw [K4a.out, K4b.out] at hs9
                      have HG9 := Lib.hid (HyfG.out.trans hg9)
                      have HP9 := Lib.hid hp9
                      have HK9 := Lib.hid hk9
                      have HS9 := Lib.hid hs9
                      have HO9 := Lib.hid ho9
                      clear hg9 hp9 hk9 hs9 ho9
                      go_wp2_with fail
                      (try simp only [Exit.inBlock, Exit.then]); refine bodyPost_end (results_none rfl _ _ _) rfl ?_
                      exact ⟨rfl, HG9.out, yg, HP9.out, HK9.out, KEY2.out yf yg Hyf1.out Hyf2.out HS9.out HO9.out⟩
                    · have hor : en = mid ∨ en = b := by omega
                      have HS9 := Lib.hid (KEY3.out yf Hyf1.out Hyf2.out hor)
                      have HFin := Lib.hid (KEY2.out yf yf Hyf1.out Hyf2.out HS9.out (fun _ _ => rfl))
                      have h78 : (decide ((mid : Int) < (en : Int)) = true ∧ decide (mid < en) = true ∧ decide ((en : Int) < (b : Int)) = false ∧ decide (en < b) = false) ∨ (decide ((mid : Int) < (en : Int)) = false ∧ decide (mid < en) = false) := by
                        by_cases h6 : mid < en
                        · exact .inl ⟨decide_eq_true (by omega), decide_eq_true h6, decide_eq_false (by omega), decide_eq_false (by omega)⟩
                        · exact .inr ⟨decide_eq_false (by omega), decide_eq_false h6⟩
                      clear h5 hor
                      rcases h78 with ⟨d7, d7b, d8, d8b⟩ | ⟨d7, d7b⟩
                      all_goals
                        go_wp2_with fail
                        (try simp only [Exit.inBlock, Exit.then]); refine bodyPost_end (results_none rfl _ _ _) rfl ?_
                        exact ⟨rfl, HyfG.out, yf, HyfP.out, HyfK.out, HFin.out⟩
end Go.Proofs.Ytahgeeklenojjaa
