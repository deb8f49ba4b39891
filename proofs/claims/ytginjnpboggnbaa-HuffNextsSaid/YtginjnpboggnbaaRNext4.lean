/- The document's Next of layer 4. Conditions: none. -/
import Derived.Test.YtginjnpboggnbaaTable4
import Derived.Test.YtginjnpboggnbaaNext4
import Derived.Test.YtginjnpboggnbaaRef3
namespace Go.Proofs.Ytginjnpboggnbaa
open Go.RowKit
set_option maxRecDepth 100000

set_option maxHeartbeats 16000000 in
theorem rnext_any (a : Option Addr) (n cap : Nat) (m : Nat → Int) (hn : n ≤ 320) (h15 : ∀ i, i < n → 0 ≤ m i ∧ m i ≤ 15) (au : Option Addr) (capu : Nat) (F : Nat → Nat) (ab : Option Addr) (nb capb V : Nat) (hnb : nb ≤ 1000000) (hV : V < 2 ^ nb) (p : Nat) (hp : p ≤ 1000000) (w : World) (hr : IRow w a n m) (hu : URow w au n F) (hb : BRow w ab nb V) :
    Calls Try.prog 43 #[.slice a n cap, .slice au n capu, .slice ab nb capb, .int .i64 (p : Int)] w fun e w' =>
      ∃ sym err taken : Nat, e = .returned (.tuple #[.int .i64 (sym : Int), .int .i64 (taken : Int), .int .i64 (err : Int)]) ∧ NextOut F (lens m) (InAll (lens m) n) (V / 2 ^ p) nb p sym err taken ∧ w = w' := by
  have Hr := Lib.hid hr
  have Hu := Lib.hid hu
  have Hb := Lib.hid hb
  have HV := Lib.hid hV
  obtain ⟨L, HL⟩ : ∃ L, Hid (lens m = L) := ⟨_, Lib.hid (Eq.refl _)⟩
  rw [HL.out]
  have HmL : Hid (∀ j, j < n → m j = (L j : Int) ∧ L j ≤ 15) := fun j hj => by
    have := h15 j hj
    rw [← HL.out]
    unfold lens
    omega
  obtain ⟨X, HX⟩ : ∃ L, Hid (V / 2 ^ p = L) := ⟨_, Lib.hid (Eq.refl _)⟩
  rw [HX.out]
  clear hr hu hb hV h15
  go_enter Try.func43, Try.ntmps43
  go_wp2_with fail
  go_loopw [11] (fun n_ wr => ∃ d : Nat, d ≤ 15 ∧ n_ = .int .i64 ((d : Int) + 1) ∧ Hid (∀ m, 1 ≤ m → m < d + 1 → p + m ≤ nb ∧ ∃ σ, InAll L n σ ∧ Ext F L (rev X m) m σ ∧ m < L σ) ∧ Hid (w = wr)) (fun n_ _ => 17 - (intOf n_).toNat)
  case atStart => exact ⟨0, by omega, rfl, (fun m h1 h2 => by omega), rfl⟩
  case round =>
    obtain ⟨d, hd15, rfl, Hpre, HW⟩ := hrel
    have HRw : Hid (IRow wr a n m) := by show IRow _ _ _ _; rw [← HW.out]; exact Hr.out
    have HUw : Hid (URow wr au n F) := by show URow _ _ _ _; rw [← HW.out]; exact Hu.out
    have HBw : Hid (BRow wr ab nb V) := by show BRow _ _ _ _; rw [← HW.out]; exact Hb.out
    obtain ⟨D, HD⟩ : ∃ R, Hid (d + 1 = R) := ⟨_, Lib.hid (Eq.refl _)⟩
    have hD : (d : Int) + 1 = (D : Int) := by have := HD.out; omega
    have hD16 : D ≤ 16 := by have := HD.out; omega
    have hD1 : 1 ≤ D := by have := HD.out; omega
    rw [HD.out] at Hpre
    rw [hD]
    clear hD hd15
    by_cases hsh : nb < p + D
    · have d1 : decide ((nb : Int) < (p : Int) + (D : Int)) = true := by rw [decide_eq_true_eq]; omega
      go_wp2_with fail
      go_ret3
      exact ⟨0, 6, D, rfl, ⟨hD1, Hpre.out, .inl ⟨hsh, rfl, rfl⟩⟩, HW.out⟩
    · have d1 : decide ((nb : Int) < (p : Int) + (D : Int)) = false := by rw [decide_eq_false_iff_not]; omega
      have CN0 := number_any ab nb capb V (by omega) HV.out p D (by omega) (by omega) true wr HBw.out
      obtain ⟨f, Hf⟩ : ∃ R, Hid (rev X D = R) := ⟨_, Lib.hid (Eq.refl _)⟩
      have ef : numAt V p D true = f := by
        rw [numAt_true, rev_mod _ _ _ (Nat.le_refl _), HX.out]
        exact Hf.out
      rw [ef] at CN0
      have CN := Lib.hid CN0
      clear CN0 ef
      go_wp2_with fail
      refine CN.out.mono ?_
      rintro e w2 ⟨rfl, rfl⟩
      clear CN
      go_wp2_with fail
      go_loopw [13, 32] (fun b_ i_ wr => ∃ (j : Nat) (bg : Bool), j ≤ n ∧ i_ = .int .i64 (j : Int) ∧ b_ = .bool bg ∧ Hid (bg = true ↔ ∃ s, s < j ∧ Ext F L f D s ∧ D < L s) ∧ Hid (∀ s, s < j → L s = D → F s ≠ f) ∧ Hid (w = wr)) (fun _ i _ => n - (intOf i).toNat)
      case atStart => exact ⟨0, false, by omega, rfl, rfl, Lib.hid (show (false = true ↔ ∃ s, s < 0 ∧ Ext F L f D s ∧ D < L s) from ⟨fun h => (by cases h), fun ⟨s, h, _⟩ => (by omega)⟩), (fun s h => by omega), HW⟩
      case round =>
        clear HRw HUw HBw HW
        obtain ⟨j, bg, hj, rfl, rfl, Hbg, Hno, HW⟩ := hrel
        have HRw : Hid (IRow wr a n m) := by show IRow _ _ _ _; rw [← HW.out]; exact Hr.out
        have HUw : Hid (URow wr au n F) := by show URow _ _ _ _; rw [← HW.out]; exact Hu.out
        by_cases hlt : j < n
        · have d2 : decide ((j : Int) < (n : Int)) = true := by rw [decide_eq_true_eq]; omega
          have hlI : (j : Int) < (n : Int) := by omega
          obtain ⟨b1, o1, rfl, _, c0⟩ := HRw.out.get j hlt
          obtain ⟨b2, o2, rfl, _, c1⟩ := HUw.out.get j hlt
          obtain ⟨em, hl15⟩ := HmL.out j hlt
          obtain ⟨l, Hl⟩ : ∃ R, Hid (L j = R) := ⟨_, Lib.hid (Eq.refl _)⟩
          obtain ⟨c, Hc⟩ : ∃ R, Hid (F j = R) := ⟨_, Lib.hid (Eq.refl _)⟩
          rw [em, Hl.out] at c0
          rw [Hc.out] at c1
          rw [Hl.out] at hl15
          clear em
          by_cases hlD : l < D
          · have d3 : decide ((l : Int) < (D : Int)) = true := by rw [decide_eq_true_eq]; omega
            have Hbg2 : Hid (bg = true ↔ ∃ s, s < j + 1 ∧ Ext F L f D s ∧ D < L s) := by
              show _ ↔ _
              rw [Hbg.out]
              constructor
              · rintro ⟨s, h1, h2⟩; exact ⟨s, by omega, h2⟩
              · rintro ⟨s, h1, h2, h3⟩
                by_cases e : s = j
                · subst e; rw [Hl.out] at h3; omega
                · exact ⟨s, by omega, h2, h3⟩
            have Hno2 : Hid (∀ s, s < j + 1 → L s = D → F s ≠ f) := fun s h1 h2 => by
              by_cases e : s = j
              · subst e; rw [Hl.out] at h2; omega
              · exact Hno.out s (by omega) h2
            go_wp2_with fail
            go_roundw
            case rel => exact ⟨j + 1, bg, by omega, by go_num, rfl, Hbg2, Hno2, HW⟩
            case measure => simp [intOf]; omega
          · have d3 : decide ((l : Int) < (D : Int)) = false := by rw [decide_eq_false_iff_not]; omega
            obtain ⟨q, Hq⟩ : ∃ R, Hid (l - D = R) := ⟨_, Lib.hid (Eq.refl _)⟩
            have hq : (l : Int) - (D : Int) = (q : Int) := by have := Hq.out; omega
            have mq : min q 32 = q := by have := Hq.out; omega
            obtain ⟨y, Hy⟩ : ∃ R, Hid (c / 2 ^ q = R) := ⟨_, Lib.hid (Eq.refl _)⟩
            have hy : (c : Int) / 2 ^ q = (y : Int) := by rw [← Hy.out]; simp
            obtain ⟨E, HE⟩ : ∃ R, Hid (((y : Int) == (f : Int)) = R) := ⟨_, Lib.hid (Eq.refl _)⟩
            have hE := HE.out
            have hext : Ext F L f D j ↔ E = true := by
              unfold Ext
              rw [Hl.out, Hc.out, Hq.out, Hy.out, ← HE.out]
              simp
              omega
            have Hext := Lib.hid hext
            clear hext
            by_cases hle : l = D
            · subst hle
              have f1 : ((l : Int) == (l : Int)) = true := by simp
              obtain rfl : q = 0 := by have := Hq.out; omega
              by_cases hcf : c = f
              · subst hcf
                go_wp2_with fail
                go_ret3
                exact ⟨j, 0, l, rfl, ⟨hD1, Hpre.out, .inr (.inr ⟨by omega, ⟨hlt, by rw [Hl.out]; omega⟩, Hl.out, by rw [Hc.out]; exact Hf.out.symm, rfl⟩)⟩, HW.out⟩
              · have f2 : ((c : Int) == (f : Int)) = false := by simp; omega
                have hyc : y = c := by rw [← Hy.out]; simp
                subst hyc
                obtain rfl : E = false := by rw [← HE.out]; exact f2
                have Hbg2 : Hid (bg = true ↔ ∃ s, s < j + 1 ∧ Ext F L f l s ∧ l < L s) := by
                  show _ ↔ _
                  rw [Hbg.out]
                  constructor
                  · rintro ⟨s, h1, h2⟩; exact ⟨s, by omega, h2⟩
                  · rintro ⟨s, h1, h2, h3⟩
                    by_cases e : s = j
                    · subst e; rw [Hl.out] at h3; omega
                    · exact ⟨s, by omega, h2, h3⟩
                have Hno2 : Hid (∀ s, s < j + 1 → L s = l → F s ≠ f) := fun s h1 h2 => by
                  by_cases e : s = j
                  · subst e; rw [Hc.out]; exact hcf
                  · exact Hno.out s (by omega) h2
                cases bg with
                | true =>
                  go_wp2_with fail
                  go_roundw
                  case rel => exact ⟨j + 1, true, by omega, by go_num, rfl, Hbg2, Hno2, HW⟩
                  case measure => simp [intOf]; omega
                | false =>
                  go_wp2_with fail
                  go_roundw
                  case rel => exact ⟨j + 1, false, by omega, by go_num, rfl, Hbg2, Hno2, HW⟩
                  case measure => simp [intOf]; omega
            · have f1 : ((l : Int) == (D : Int)) = false := by simp; omega
              have Hbg2 : Hid ((bg || E) = true ↔ ∃ s, s < j + 1 ∧ Ext F L f D s ∧ D < L s) := by
                show _ ↔ _
                rw [Bool.or_eq_true, Hbg.out, ← Hext.out]
                constructor
                · rintro (⟨s, h1, h2⟩ | h)
                  · exact ⟨s, by omega, h2⟩
                  · exact ⟨j, by omega, h, by rw [Hl.out]; omega⟩
                · rintro ⟨s, h1, h2, h3⟩
                  by_cases e : s = j
                  · subst e; exact .inr h2
                  · exact .inl ⟨s, by omega, h2, h3⟩
              have Hno2 : Hid (∀ s, s < j + 1 → L s = D → F s ≠ f) := fun s h1 h2 => by
                by_cases e : s = j
                · subst e; rw [Hl.out] at h2; exact absurd h2 hle
                · exact Hno.out s (by omega) h2
              cases bg with
              | true =>
                go_wp2_with fail
                go_roundw
                case rel => exact ⟨j + 1, true, by omega, by go_num, rfl, Hbg2, Hno2, HW⟩
                case measure => simp [intOf]; omega
              | false =>
                go_wp2_with fail
                go_roundw
                case rel => exact ⟨j + 1, E, by omega, by go_num, rfl, Hbg2, Hno2, HW⟩
                case measure => simp [intOf]; omega
        · obtain rfl : j = n := by omega
          have d2 : decide ((j : Int) < (j : Int)) = false := by rw [decide_eq_false_iff_not]; omega
          cases bg with
          | true =>
            obtain ⟨s, h1, h2, h3⟩ := Hbg.out.1 rfl
            have h4 := (HmL.out s h1).2
            have Hpre2 : Hid (∀ m, 1 ≤ m → m < D + 1 → p + m ≤ nb ∧ ∃ σ, InAll L j σ ∧ Ext F L (rev X m) m σ ∧ m < L σ) := by
              intro m h5 h6
              by_cases e : m = D
              · subst e
                rw [Hf.out]
                exact ⟨by omega, s, ⟨h1, by omega⟩, h2, h3⟩
              · exact Hpre.out m h5 (by omega)
            have hDl : D ≤ 15 := by omega
            clear h1 h2 h3 h4
            go_wp2_with fail
            go_roundw
            case rel => exact ⟨D, hDl, rfl, Hpre2, HW⟩
            case measure => simp [intOf]; omega
          | false =>
            have Hnone : Hid (∀ s, InAll L j s → ¬ Ext F L (rev X D) D s) := by
              rintro s ⟨h1, h2⟩ h3
              rw [Hf.out] at h3
              by_cases e : D < L s
              · have := Hbg.out.2 ⟨s, h1, h3, e⟩
                cases this
              · have h4 := h3.1
                have h5 : L s = D := by omega
                refine Hno.out s h1 h5 ?_
                have h6 := h3.2
                rw [h5, Nat.sub_self, Nat.pow_zero, Nat.div_one] at h6
                exact h6
            go_wp2_with fail
            go_ret3
            exact ⟨0, 3, D, rfl, ⟨hD1, Hpre.out, .inr (.inl ⟨by omega, Hnone.out, rfl, rfl⟩)⟩, HW.out⟩
end Go.Proofs.Ytginjnpboggnbaa
