/- The document's Code of layer 4. Conditions: none. -/
import Derived.Test.YtginjnpboggnbaaFit4
namespace Go.Proofs.Ytginjnpboggnbaa
open Go.RowKit
set_option maxRecDepth 100000

/-- What Code has after k lengths. -/
def codeTo (L : Nat → Nat) (s k : Nat) : Nat := sumTo (fun t => if ahead L t s then 2 ^ (L s - L t) else 0) k
theorem codeTo_succ (L : Nat → Nat) (s k : Nat) : codeTo L s (k + 1) = codeTo L s k + (if ahead L k s then 2 ^ (L s - L k) else 0) := rfl
theorem codeTo_pre (L : Nat → Nat) (s k : Nat) (h15 : L s ≤ 15) : sumTo (fun t => if ahead L t s then pt (L t) else 0) k = codeTo L s k * 2 ^ (15 - L s) := by
  induction k with
  | zero => simp [sumTo, codeTo]
  | succ k ih =>
    show sumTo _ k + _ = _
    rw [ih, codeTo_succ, Nat.add_mul]
    congr 1
    show (if ahead L k s = true then pt (L k) else 0) = _
    by_cases h : ahead L k s = true
    · rw [if_pos h, if_pos h]
      unfold ahead at h
      simp at h
      unfold pt
      rw [if_pos h.1, ← Nat.pow_add]
      congr 1
      omega
    · rw [if_neg h, if_neg h, Nat.zero_mul]
theorem codeTo_all (L : Nat → Nat) (n s : Nat) (h15 : L s ≤ 15) : codeTo L s n = codeOf L n s := by
  unfold codeOf pre
  rw [codeTo_pre L s n h15, Nat.mul_div_cancel _ (pow_pos2' _)]
where pow_pos2' (k : Nat) : 0 < 2 ^ k := Nat.pow_pos (by decide)
theorem codeTo_le (L : Nat → Nat) (s k : Nat) (h15 : L s ≤ 15) : codeTo L s k ≤ 32768 * k := by
  unfold codeTo
  refine sumTo_bound _ _ _ fun j _ => ?_
  split
  · exact Nat.le_trans (Nat.pow_le_pow_right (n := 2) (i := L s - L j) (j := 15) (by decide) (by omega)) (by decide)
  · omega

set_option maxHeartbeats 8000000 in
theorem code_any (a : Option Addr) (n cap : Nat) (m : Nat → Int) (hn : n ≤ 320) (h15 : ∀ i, i < n → 0 ≤ m i ∧ m i ≤ 15) (s : Nat) (hs : s < n) (w : World) (hr : IRow w a n m) :
    Calls Try.prog 35 #[.slice a n cap, .int .i64 (s : Int)] w fun e w' => e = .returned (.int .u32 (codeOf (lens m) n s : Int)) ∧ w = w' := by
  have Hr := Lib.hid hr
  obtain ⟨L, HL⟩ : ∃ L, Hid (lens m = L) := ⟨_, Lib.hid (Eq.refl _)⟩
  rw [HL.out]
  have HmL : Hid (∀ j, j < n → m j = (L j : Int) ∧ L j ≤ 15) := fun j hj => by
    have := h15 j hj
    rw [← HL.out]
    unfold lens
    omega
  obtain ⟨e1, hls15⟩ := HmL.out s hs
  have Hend := Lib.hid (codeTo_all L n s hls15)
  have Hle := Lib.hid (fun k => codeTo_le L s k hls15)
  obtain ⟨b, off, rfl, _, cs⟩ := hr.get s hs
  obtain ⟨l, Hl⟩ : ∃ R, Hid (L s = R) := ⟨_, Lib.hid (Eq.refl _)⟩
  rw [e1, Hl.out] at cs
  rw [Hl.out] at hls15
  have hsn : (s : Int) < (n : Int) := by omega
  clear hr h15 e1
  go_enter Try.func35, Try.ntmps35
  go_wp2_with fail
  go_loopw [5, 10] (fun x_ i_ wr => ∃ i x : Nat, i ≤ n ∧ i_ = .int .i64 (i : Int) ∧ x_ = .int .u32 (x : Int) ∧ x ≤ 32768 * i ∧ Hid (codeTo L s i = x) ∧ Hid (w = wr)) (fun _ i _ => n - (intOf i).toNat)
  case atStart => exact ⟨0, 0, by omega, rfl, rfl, by omega, rfl, rfl⟩
  case round =>
    obtain ⟨i, x, hi, rfl, rfl, hx, Hx, HW⟩ := hrel
    have HRw : Hid (IRow wr (some ⟨b, off, none⟩) n m) := by show IRow _ _ _ _; rw [← HW.out]; exact Hr.out
    have cs2 : wr.cell? ⟨b, off + s, none⟩ = some (.int .i64 (l : Int)) := by rw [← HW.out]; exact cs
    by_cases hlt : i < n
    · have d1 : decide ((i : Int) < (n : Int)) = true := by rw [decide_eq_true_eq]; omega
      obtain ⟨b', off', e, _, c0⟩ := HRw.out.get i hlt
      injection e with e
      injection e with e2 e3
      subst e2 e3
      obtain ⟨e1, hli15⟩ := HmL.out i hlt
      obtain ⟨k, Hk⟩ : ∃ R, Hid (L i = R) := ⟨_, Lib.hid (Eq.refl _)⟩
      rw [e1, Hk.out] at c0
      rw [Hk.out] at hli15
      have hst := codeTo_succ L s i
      rw [Hx.out] at hst
      clear e1
      have skip : ¬ ahead L i s = true → Hid (codeTo L s (i + 1) = x) := fun h => by
        show _ = _
        rw [hst, if_neg h, Nat.add_zero]
      obtain ⟨d, Hd⟩ : ∃ R, Hid (l - k = R) := ⟨_, Lib.hid (Eq.refl _)⟩
      obtain ⟨Y, HY⟩ : ∃ R, Hid (2 ^ d = R) := ⟨_, Lib.hid (Eq.refl _)⟩
      have hY : Y ≤ 32768 := by
        rw [← HY.out]
        exact Nat.le_trans (Nat.pow_le_pow_right (n := 2) (i := d) (j := 15) (by decide) (by have := Hd.out; omega)) (by decide)
      have take : ahead L i s = true → Hid (codeTo L s (i + 1) = x + Y) := fun h => by
        show _ = _
        rw [hst, if_pos h, Hl.out, Hk.out, Hd.out, HY.out]
      have wY : IntKind.u32.wrap ((2 : Int) ^ d) = (Y : Int) := by
        have e : (2 : Int) ^ d = ((2 ^ d : Nat) : Int) := by simp
        rw [e, HY.out, IntKind.wrap_u32]
        omega
      have wY2 : (2 : Int) ^ d % 4294967296 = (Y : Int) := by
        have e : (2 : Int) ^ d = ((2 ^ d : Nat) : Int) := by simp
        rw [e, HY.out]
        omega
      have md : min d 32 = d := by have := Hd.out; omega
      have Hskip := Lib.hid skip
      have Htake := Lib.hid take
      have hahd : ahead L i s = (decide (0 < k) && (decide (k < l) || (decide (k = l) && decide (i < s)))) := by unfold ahead; rw [Hl.out, Hk.out]
      have Hahd := Lib.hid hahd
      clear skip take hahd hst
      by_cases hk0 : 0 < k
      · have f0 : decide (0 < (k : Int)) = true := by rw [decide_eq_true_eq]; omega
        by_cases hkl : k < l
        · have f1 : decide ((k : Int) < (l : Int)) = true := by rw [decide_eq_true_eq]; omega
          have hd : (l : Int) - (k : Int) = (d : Int) := by have := Hd.out; omega
          have H2 := Htake.out (by rw [Hahd.out, decide_eq_true hk0, decide_eq_true hkl]; rfl)
          go_wp2_with fail
          go_roundw
          case rel => exact ⟨i + 1, x + Y, by omega, by go_num, by go_num, by omega, H2, HW⟩
          case measure => simp [intOf]; omega
        · have f1 : decide ((k : Int) < (l : Int)) = false := by rw [decide_eq_false_iff_not]; omega
          by_cases hke : k = l
          · subst hke
            by_cases his : i < s
            · have f3 : decide ((i : Int) < (s : Int)) = true := by rw [decide_eq_true_eq]; omega
              have hd : (k : Int) - (k : Int) = (d : Int) := by have := Hd.out; omega
              have hd0 : d = 0 := by have := Hd.out; omega
              have H2 := Htake.out (by rw [Hahd.out, decide_eq_true hk0, decide_eq_true his]; simp)
              subst hd0
              have hY1 : Y = 1 := HY.out.symm
              subst hY1
              go_wp2_with fail
              go_roundw
              case rel => exact ⟨i + 1, x + 1, by omega, by go_num, by go_num, by omega, H2, HW⟩
              case measure => simp [intOf]; omega
            · have f3 : decide ((i : Int) < (s : Int)) = false := by rw [decide_eq_false_iff_not]; omega
              have H2 := Hskip.out (by rw [Hahd.out, decide_eq_false his]; simp)
              go_wp2_with fail
              go_roundw
              case rel => exact ⟨i + 1, x, by omega, by go_num, rfl, by omega, H2, HW⟩
              case measure => simp [intOf]; omega
          · have f2 : ((k : Int) == (l : Int)) = false := by simp; omega
            have H2 := Hskip.out (by rw [Hahd.out, decide_eq_false hkl, decide_eq_false hke]; simp)
            go_wp2_with fail
            go_roundw
            case rel => exact ⟨i + 1, x, by omega, by go_num, rfl, by omega, H2, HW⟩
            case measure => simp [intOf]; omega
      · obtain rfl : k = 0 := by omega
        have H2 := Hskip.out (by rw [Hahd.out]; simp)
        go_wp2_with fail
        go_roundw
        case rel => exact ⟨i + 1, x, by omega, by go_num, rfl, by omega, H2, HW⟩
        case measure => simp [intOf]; omega
    · obtain rfl : i = n := by omega
      have d1 : decide ((i : Int) < (i : Int)) = false := by rw [decide_eq_false_iff_not]; omega
      have e : codeOf L i s = x := by rw [← Hend.out]; exact Hx.out
      have He := Lib.hid e
      clear e
      go_wp2_with fail
      go_ret
      exact ⟨by rw [He.out]; rfl, HW.out⟩
end Go.Proofs.Ytginjnpboggnbaa
