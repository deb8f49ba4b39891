/- The chunker: Check, New. Conditions: ints. -/
import Derived.Test.YtgjofpefglbjjaaRoll
namespace Go.Proofs.Ytgjofpefglbjjaa
open Go.RowKit
set_option maxRecDepth 100000

/-- The error of a configuration. -/
def kErr (mn b mx : Int) : Nat := if mn < 1 ∨ mx < mn ∨ b < 0 ∨ 20 < b then 1 else if 4096 < mx then 2 else 0

theorem kcheck_any (mn b mx : Int) (w : World) :
    Calls Try.prog 31 #[.agg #[.int .i64 mn, .int .i64 b, .int .i64 mx]] w fun e w' => e = .returned (.int .i64 (kErr mn b mx : Int)) ∧ Below w.heap.size w w' := by
  have hb0 := (Below.refl w.heap.size w).alloc (Nat.le_refl _) (.cells #[.int .i64 mn, .int .i64 b, .int .i64 mx] 41)
  by_cases h1 : mn < 1
  · have H : Hid (kErr mn b mx = 1) := by show _ = _; unfold kErr; rw [if_pos (.inl h1)]
    go_enter Try.func31, Try.ntmps31
    go_wp2
    go_ret
    exact ⟨by rw [H.out]; rfl, hb0⟩
  have d1 : decide (mn < 1) = false := by simpa using h1
  by_cases h2 : mx < mn
  · have H : Hid (kErr mn b mx = 1) := by show _ = _; unfold kErr; rw [if_pos (.inr (.inl h2))]
    clear h1
    go_enter Try.func31, Try.ntmps31
    go_wp2
    go_ret
    exact ⟨by rw [H.out]; rfl, hb0⟩
  have d2 : decide (mx < mn) = false := by simpa using h2
  by_cases h3 : b < 0
  · have H : Hid (kErr mn b mx = 1) := by show _ = _; unfold kErr; rw [if_pos (.inr (.inr (.inl h3)))]
    clear h1 h2
    go_enter Try.func31, Try.ntmps31
    go_wp2
    go_ret
    exact ⟨by rw [H.out]; rfl, hb0⟩
  have d3 : decide (b < 0) = false := by simpa using h3
  by_cases h4 : 20 < b
  · have H : Hid (kErr mn b mx = 1) := by show _ = _; unfold kErr; rw [if_pos (.inr (.inr (.inr h4)))]
    clear h1 h2 h3
    go_enter Try.func31, Try.ntmps31
    go_wp2
    go_ret
    exact ⟨by rw [H.out]; rfl, hb0⟩
  have d4 : decide (20 < b) = false := by simpa using h4
  by_cases h5 : 4096 < mx
  · have H : Hid (kErr mn b mx = 2) := by show _ = _; unfold kErr; rw [if_neg (by omega), if_pos h5]
    clear h1 h2 h3 h4
    go_enter Try.func31, Try.ntmps31
    go_wp2
    go_ret
    exact ⟨by rw [H.out]; rfl, hb0⟩
  · have H : Hid (kErr mn b mx = 0) := by show _ = _; unfold kErr; rw [if_neg (by omega), if_neg h5]
    clear h1 h2 h3 h4
    have d5 : decide (4096 < mx) = false := by simpa using h5
    go_enter Try.func31, Try.ntmps31
    go_wp2
    go_ret
    exact ⟨by rw [H.out]; rfl, hb0⟩

theorem rcheck_any (mn b mx : Int) (w : World) :
    Calls Try.prog 36 #[.int .i64 mn, .int .i64 b, .int .i64 mx] w fun e w' => e = .returned (.int .i64 (kErr mn b mx : Int)) ∧ w = w' := by
  by_cases h1 : mn < 1
  · have H : Hid (kErr mn b mx = 1) := by show _ = _; unfold kErr; rw [if_pos (.inl h1)]
    go_enter Try.func36, Try.ntmps36
    go_wp2
    go_ret
    exact ⟨by rw [H.out]; rfl, rfl⟩
  have d1 : decide (mn < 1) = false := by simpa using h1
  by_cases h2 : mx < mn
  · have H : Hid (kErr mn b mx = 1) := by show _ = _; unfold kErr; rw [if_pos (.inr (.inl h2))]
    clear h1
    go_enter Try.func36, Try.ntmps36
    go_wp2
    go_ret
    exact ⟨by rw [H.out]; rfl, rfl⟩
  have d2 : decide (mx < mn) = false := by simpa using h2
  by_cases h3 : b < 0
  · have H : Hid (kErr mn b mx = 1) := by show _ = _; unfold kErr; rw [if_pos (.inr (.inr (.inl h3)))]
    clear h1 h2
    go_enter Try.func36, Try.ntmps36
    go_wp2
    go_ret
    exact ⟨by rw [H.out]; rfl, rfl⟩
  have d3 : decide (b < 0) = false := by simpa using h3
  by_cases h4 : 20 < b
  · have H : Hid (kErr mn b mx = 1) := by show _ = _; unfold kErr; rw [if_pos (.inr (.inr (.inr h4)))]
    clear h1 h2 h3
    go_enter Try.func36, Try.ntmps36
    go_wp2
    go_ret
    exact ⟨by rw [H.out]; rfl, rfl⟩
  have d4 : decide (20 < b) = false := by simpa using h4
  by_cases h5 : 4096 < mx
  · have H : Hid (kErr mn b mx = 2) := by show _ = _; unfold kErr; rw [if_neg (by omega), if_pos h5]
    clear h1 h2 h3 h4
    go_enter Try.func36, Try.ntmps36
    go_wp2
    go_ret
    exact ⟨by rw [H.out]; rfl, rfl⟩
  · have H : Hid (kErr mn b mx = 0) := by show _ = _; unfold kErr; rw [if_neg (by omega), if_neg h5]
    clear h1 h2 h3 h4
    have d5 : decide (4096 < mx) = false := by simpa using h5
    go_enter Try.func36, Try.ntmps36
    go_wp2
    go_ret
    exact ⟨by rw [H.out]; rfl, rfl⟩

theorem new_no (mn b mx : Int) (hn : kErr mn b mx ≠ 0) (w : World) :
    Calls Try.prog 37 #[.agg #[.int .i64 mn, .int .i64 b, .int .i64 mx]] w fun e w' => e = .returned (.tuple #[.pointer none, .int .i64 (kErr mn b mx : Int)]) ∧ Below w.heap.size w w' := by
  have hb0 := (Below.refl w.heap.size w).alloc (Nat.le_refl _) (.cells #[.int .i64 mn, .int .i64 b, .int .i64 mx] 41)
  have C := Lib.hid (fun W => kcheck_any mn b mx W)
  obtain ⟨e, he⟩ : ∃ e, kErr mn b mx = e := ⟨_, rfl⟩
  rw [he] at hn C ⊢
  have hne : ((e : Int) != 0) = true := by simp; omega
  clear he hn
  go_enter Try.func37, Try.ntmps37
  go_wp2_with (refine (C.out _).mono ?_; rintro e w1 ⟨rfl, hb1⟩)
  go_ret2
  exact ⟨rfl, bthen hb0 hb1⟩

/-- 2^i after k bytes of nought. -/
def pt16 (i k : Nat) : Nat := if k = 0 then 2 ^ i else Gf.md (2 ^ i * 256 ^ k) QQ
theorem pt16_step (i k : Nat) : Gf.md (pt16 i k * 256 + 0) QQ = pt16 i (k + 1) := by
  unfold pt16
  by_cases h : k = 0
  · subst h; simp
  · rw [if_neg h, if_neg (by omega), md_horner _ 0 _ (by decide) QQ_ne, Nat.add_zero, Nat.pow_succ, Nat.mul_assoc]
theorem pt16_lt (i k : Nat) (hi : i < 8) : pt16 i k < 9007199254740992 := by
  unfold pt16
  split
  · have : 2 ^ i ≤ 2 ^ 8 := Nat.pow_le_pow_right (by decide) (by omega)
    have h2 : (2 : Nat) ^ 8 = 256 := by decide
    omega
  · exact lt53 _
theorem pt16_end (i : Nat) : pt16 i 16 = og i := by
  unfold pt16 og
  rw [if_neg (by decide), show (256 : Nat) ^ 16 = 2 ^ 128 by decide]
/-- The first k of what leaves. -/
def ogk (k : Nat) : Nat → Nat := fun j => if j < k then og j else 0
theorem kcells_congr {mn b mx t p : Nat} {ring ot ot' : Nat → Nat} {v : Value} {cl : Bool} (h : ∀ j, j < 8 → ot j = ot' j) : kcells mn b mx ring t p ot v cl = kcells mn b mx ring t p ot' v cl := by
  refine fcells_congr _ _ _ fun i _ => ?_
  unfold kcell
  by_cases h1 : i < 21
  · simp only [if_pos h1]
  · by_cases h2 : i < 29
    · simp only [if_neg h1, if_pos h2, h (i - 21) (by omega)]
    · simp only [if_neg h2]
theorem kcells_new (mn b mx : Nat) : kcells mn b mx (fun _ => 0) 0 0 (ogk 0) (.slice none 0 0) false =
    #[.int .i64 (mn : Int), .int .i64 (b : Int), .int .i64 (mx : Int), .int .u8 0, .int .u8 0, .int .u8 0, .int .u8 0, .int .u8 0, .int .u8 0, .int .u8 0, .int .u8 0, .int .u8 0, .int .u8 0, .int .u8 0, .int .u8 0, .int .u8 0, .int .u8 0, .int .u8 0, .int .u8 0, .int .i64 0, .int .u64 0,
      .int .u64 0, .int .u64 0, .int .u64 0, .int .u64 0, .int .u64 0, .int .u64 0, .int .u64 0, .int .u64 0, .slice none 0 0, .bool false] := by
  simp [kcells, fcells, kcell, ogk, List.range_succ, List.range_zero]

set_option maxHeartbeats 1000000 in
theorem new_yes (mn b mx : Nat) (hn : kErr mn b mx = 0) (w : World) :
    Calls Try.prog 37 #[.agg #[.int .i64 (mn : Int), .int .i64 (b : Int), .int .i64 (mx : Int)]] w fun e w' => ∃ P, e = .returned (.tuple #[.pointer (some ⟨P, 0, none⟩), .int .i64 0]) ∧ w.heap.size ≤ P ∧
      Blk w' P 74 (kcells mn b mx (fun _ => 0) 0 0 og (.slice none 0 0) false) ∧ Below w.heap.size w w' := by
  have hb0 := (Below.refl w.heap.size w).alloc (Nat.le_refl _) (.cells #[.int .i64 (mn : Int), .int .i64 (b : Int), .int .i64 (mx : Int)] 41)
  have cc := fun W => kcheck_any mn b mx W
  rw [hn] at cc
  have C := Lib.hid cc
  have Hk := Lib.hid (kcells_new mn b mx)
  clear hn cc
  go_enter Try.func37, Try.ntmps37
  go_wp2_with fail
  refine (C.out _).mono ?_
  rintro e w1 ⟨rfl, hb1⟩
  have hcf := (Blk.new w 41 #[.int .i64 (mn : Int), .int .i64 (b : Int), .int .i64 (mx : Int)]).below hb1 (by simp)
  have c0 := hcf.cell 0
  have c1 := hcf.cell 1
  have c2 := hcf.cell 2
  simp at c0 c1 c2
  have hbw := bthen hb0 hb1
  clear hb0 hb1 hcf
  go_wp2_with fail
  have hB0 := Blk.new w1 74 (kcells mn b mx (fun _ => 0) 0 0 (ogk 0) (.slice none 0 0) false)
  have hb0 := hbw.alloc hbw.size (.cells (kcells mn b mx (fun _ => 0) 0 0 (ogk 0) (.slice none 0 0) false) 74)
  rw [Hk.out] at hB0 hb0
  obtain ⟨P, HP⟩ : ∃ P, Hid (w1.heap.size = P) := ⟨_, Lib.hid (Eq.refl _)⟩
  have hPw : w.heap.size ≤ P := by rw [← HP.out]; exact hbw.size
  rw [HP.out] at hB0 ⊢
  rw [← Hk.out] at hB0
  clear c0 c1 c2 hbw
  have HB0 := Lib.hid hB0
  have Hb0 := Lib.hid hb0
  clear hB0 hb0
  go_loopw [6, 7, 16, 21] (fun _ _ i _ wr => ∃ k : Nat, k ≤ 8 ∧ i = .int .i64 (k : Int) ∧ Blk wr P 74 (kcells mn b mx (fun _ => 0) 0 0 (ogk k) (.slice none 0 0) false) ∧ Below w.heap.size w wr)
    (fun _ _ i _ _ => 8 - (intOf i).toNat)
  case atStart => exact ⟨0, by omega, rfl, HB0.out, Hb0.out⟩
  case round =>
    clear HB0 Hb0
    obtain ⟨k, hk, rfl, hB, hbw⟩ := hrel
    by_cases hk8 : k < 8
    · have hpow : (2 : Int) ^ k = ((2 ^ k : Nat) : Int) := by simp
      have Hp0 : Hid (pt16 k 0 = 2 ^ k) := by show _ = _; rfl
      have hsh : IntKind.u64.wrap ((pt16 k 0 : Nat) : Int) = ((pt16 k 0 : Nat) : Int) := by
        have := pt16_lt k 0 hk8
        rw [IntKind.wrap_u64]; omega
      have hsh2 : (2 : Int) ^ k = ((pt16 k 0 : Nat) : Int) := by rw [hpow, Hp0.out]
      have HB := Lib.hid hB
      have Hbw := Lib.hid hbw
      clear hpow hB hbw
      have hkd : decide ((k : Int) < 8) = true := by simp; omega
      go_wp2_with fail
      go_loop [7, 21] (fun p j => ∃ z : Nat, z ≤ 16 ∧ j = .int .i64 (z : Int) ∧ p = .int .u64 (pt16 k z : Int)) (fun _ j => 16 - (intOf j).toNat)
      case atStart => exact ⟨0, by omega, rfl, rfl⟩
      case round =>
        clear hsh hsh2
        obtain ⟨z, hz, rfl, rfl⟩ := hrel
        by_cases hz16 : z < 16
        · have hl := pt16_lt k z hk8
          have ca := fun W => append_yes (pt16 k z) 0 QQ (by omega) (by decide) (by decide) fitQ W
          rw [pt16_step] at ca
          simp only [show ((QQ : Nat) : Int) = 17349423945073011 from rfl] at ca
          have Ca := Lib.hid ca
          clear ca
          generalize pt16 k z = x at *
          go_wp2_with (refine (Ca.out _).mono ?_; rintro e w' ⟨rfl, rfl⟩)
          go_round
          case rel => exact ⟨z + 1, by omega, by go_num, rfl⟩
          case measure => simp [intOf]; omega
        · obtain rfl : z = 16 := by omega
          have hB := HB.out
          have hc : wr.cell? ⟨P, 21 + k, none⟩ = some (.int .u64 (ogk k k : Int)) := by
            rw [hB.cell, k_get _ (by omega)]
            unfold kcell
            rw [if_neg (by omega), if_neg (by omega), if_neg (by omega), if_pos (by omega), show 21 + k - 21 = k by omega]
          have hf := hB.frozen (21 + k)
          rw [pt16_end]
          clear hB
          go_wp2_with fail
          go_roundw
          case rel =>
            refine ⟨k + 1, by omega, by go_num, ?_, Hbw.out.setCell (p := ⟨P, 21 + k, none⟩) hPw _⟩
            have h := HB.out.set_ (21 + k) (.int .u64 (og k : Int))
            rw [k_out k (og k) hk8] at h
            rw [kcells_congr (ot := ogk (k + 1)) (ot' := upd (ogk k) k (og k)) (fun j hj => by
              simp only [ogk, upd]
              by_cases e : j = k
              · subst e; rw [if_pos (by omega), if_pos rfl]
              · rw [if_neg e]
                by_cases h : j < k
                · rw [if_pos (by omega), if_pos h]
                · rw [if_neg (by omega), if_neg h])]
            exact h
          case measure => simp [intOf]; omega
    · obtain rfl : k = 8 := by omega
      have HB : Hid (Blk wr P 74 (kcells mn b mx (fun _ => 0) 0 0 og (.slice none 0 0) false)) := by
        show Blk _ _ _ _
        rw [← kcells_congr (ot := ogk 8) (ot' := og) (fun j hj => by unfold ogk; rw [if_pos hj])]
        exact hB
      clear hB
      go_wp2_with fail
      go_ret2
      exact ⟨P, rfl, hPw, HB.out, hbw⟩
end Go.Proofs.Ytgjofpefglbjjaa
