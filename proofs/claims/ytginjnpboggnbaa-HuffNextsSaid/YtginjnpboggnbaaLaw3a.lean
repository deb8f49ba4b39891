/- BitioParts. Conditions: none. -/
import Derived.Test.YtginjnpboggnbaaAwake3
import Derived.Test.YtginjnpboggnbaaFew
import Derived.Deep.RegionHeld3
namespace Go.Proofs.Ytginjnpboggnbaa
open Go.RowKit
set_option maxRecDepth 100000

theorem bitsAt_add (s : ByteArray) (p a b : Nat) : bitsAt s p (a + b) = bitsAt s p a + bitsAt s (p + a) b * 2 ^ a := by
  unfold bitsAt
  rw [Nat.pow_add, Nat.mod_mul, Nat.div_div_eq_div_mul, ← Nat.pow_add, Nat.mul_comm (2 ^ a)]
theorem rev_add (x a b : Nat) : rev x (a + b) = rev x a * 2 ^ b + rev (x / 2 ^ a) b := by
  induction b with
  | zero => simp [rev]
  | succ b ih =>
    rw [← Nat.add_assoc]
    simp only [rev, ih]
    rw [Nat.div_div_eq_div_mul, ← Nat.pow_add, Nat.pow_succ, ← Nat.mul_assoc, Nat.mul_add]
    omega
theorem rev_bits (s : ByteArray) (p a b : Nat) : rev (bitsAt s p (a + b)) (a + b) = rev (bitsAt s p a) a * 2 ^ b + rev (bitsAt s (p + a) b) b := by
  unfold bitsAt
  rw [rev_mod _ _ _ (Nat.le_refl _), rev_mod _ _ _ (Nat.le_refl _), rev_mod _ _ _ (Nat.le_refl _), rev_add, Nat.div_div_eq_div_mul, ← Nat.pow_add]
theorem bits_lt (s : ByteArray) (p k : Nat) : bitsAt s p k < 2 ^ k := Nat.mod_lt _ (pow_pos2 k)
theorem pow32 {k : Nat} (h : k ≤ 32) : 2 ^ k ≤ 4294967296 := Nat.le_trans (Nat.pow_le_pow_right (by decide) h) (by decide)

/-- The four places. -/
def four (P0 P1 P2 P3 : Nat) (j : Nat) : Nat := if j = 0 then P0 else if j = 1 then P1 else if j = 2 then P2 else P3

set_option maxHeartbeats 8000000 in
theorem parts_in (s0 : ByteArray) (hs0 : s0.size ≤ maxLen) (k a b : Nat) (hk : k ≤ 900) (ha : a ≤ 32) (hb : a + b ≤ 32) (w : World) :
    Calls Try.prog 5 #[.string s0, .int .i64 (k : Int), .int .i64 (a : Int), .int .i64 (b : Int)] w fun e w' => e = .returned (.bool true) ∧ Below w.heap.size w w' := by
  have CF := Lib.hid (few_any s0 100 (by decide) hs0 w)
  have hsz := few_size s0 100
  obtain ⟨s, Hs⟩ : ∃ s, Hid (few s0 100 = s) := ⟨_, Lib.hid (Eq.refl _)⟩
  rw [Hs.out] at CF hsz
  have hs : s.size ≤ 100000000 := by omega
  have CO := Lib.hid (fun W => srcOf_any s W)
  have n1 : decide ((k : Int) < 0) = false := by rw [decide_eq_false_iff_not]; omega
  have n2 : decide ((900 : Int) < (k : Int)) = false := by rw [decide_eq_false_iff_not]; omega
  have n3 : decide ((a : Int) < 0) = false := by rw [decide_eq_false_iff_not]; omega
  have n4 : decide ((b : Int) < 0) = false := by rw [decide_eq_false_iff_not]; omega
  have n5 : decide ((32 : Int) < (a : Int)) = false := by rw [decide_eq_false_iff_not]; omega
  have n6 : decide (32 - (a : Int) < (b : Int)) = false := by rw [decide_eq_false_iff_not]; omega
  clear hs0
  go_enter Try.func5, Try.ntmps5
  go_wp2_with fail
  refine CF.out.mono ?_
  rintro e w0 ⟨rfl, rfl⟩
  go_wp2_with fail
  refine (CO.out _).mono ?_
  rintro e w1 ⟨rfl, hS1, hB1⟩
  obtain ⟨P0, HP0⟩ : ∃ P, Hid (w.heap.size = P) := ⟨_, Lib.hid (Eq.refl _)⟩
  rw [HP0.out] at hS1
  have HS1 := Lib.hid hS1
  have HB1 := Lib.hid hB1
  have l0 : P0 < w1.heap.size := hS1.lt
  clear hS1 hB1
  go_wp2_with fail
  refine (CO.out _).mono ?_
  rintro e w2 ⟨rfl, hS2, hB2⟩
  obtain ⟨P1, HP1⟩ : ∃ P, Hid (w1.heap.size = P) := ⟨_, Lib.hid (Eq.refl _)⟩
  rw [HP1.out] at hS2
  have HS2 := Lib.hid hS2
  have HT1 := Lib.hid (HS1.out.below hB2 l0)
  have HB2 := Lib.hid (bthen HB1.out hB2)
  have l1 : P1 < w2.heap.size := hS2.lt
  clear hS2 hB2 HS1 HB1
  go_wp2_with fail
  refine (CO.out _).mono ?_
  rintro e w3 ⟨rfl, hS3, hB3⟩
  obtain ⟨P2, HP2⟩ : ∃ P, Hid (w2.heap.size = P) := ⟨_, Lib.hid (Eq.refl _)⟩
  rw [HP2.out] at hS3
  rw [HP1.out] at l0
  have HS3 := Lib.hid hS3
  have l2 : P2 < w3.heap.size := hS3.lt
  have HT2 := Lib.hid (HT1.out.below hB3 (by omega))
  have HU2 := Lib.hid (HS2.out.below hB3 l1)
  have HB3 := Lib.hid (bthen HB2.out hB3)
  rw [HP2.out] at l1
  clear hS3 hB3 HS2 HB2 HT1
  go_wp2_with fail
  refine (CO.out _).mono ?_
  rintro e w4 ⟨rfl, hS4, hB4⟩
  obtain ⟨P3, HP3⟩ : ∃ P, Hid (w3.heap.size = P) := ⟨_, Lib.hid (Eq.refl _)⟩
  rw [HP3.out] at hS4
  have HS4 := Lib.hid hS4
  have l3 : P3 < w4.heap.size := hS4.lt
  have HT3 := Lib.hid (HT2.out.below hB4 (by omega))
  have HU3 := Lib.hid (HU2.out.below hB4 (by omega))
  have HV3 := Lib.hid (HS3.out.below hB4 l2)
  have HB4 := Lib.hid (bthen HB3.out hB4)
  rw [HP3.out] at l2
  clear hS4 hB4 HS3 HB3 HT2 HU2
  go_wp2_with fail
  rw [HP0.out, HP1.out, HP2.out, HP3.out]
  obtain ⟨G, HGr⟩ : ∃ P, Hid (w4.heap.size = P) := ⟨_, Lib.hid (Eq.refl _)⟩
  have hBr := Blk.new w4 52 #[.pointer (some ⟨P0, 0, none⟩), .pointer (some ⟨P1, 0, none⟩), .pointer (some ⟨P2, 0, none⟩), .pointer (some ⟨P3, 0, none⟩)]
  have hba := (Below.refl w4.heap.size w4).alloc (Nat.le_refl _) (.cells #[.pointer (some ⟨P0, 0, none⟩), .pointer (some ⟨P1, 0, none⟩), .pointer (some ⟨P2, 0, none⟩), .pointer (some ⟨P3, 0, none⟩)] 52)
  have hwG : w.heap.size ≤ G := by rw [← HGr.out]; exact HB4.out.size
  have hwP : w.heap.size ≤ P0 := by rw [HP0.out]; exact Nat.le_refl _
  have hP3G : P3 < G := by rw [← HGr.out]; exact l3
  obtain ⟨Pf, HPf⟩ : ∃ Pf, Hid (four P0 P1 P2 P3 = Pf) := ⟨_, Lib.hid (Eq.refl _)⟩
  have HPne : Hid (∀ i j, i < 4 → j < 4 → i ≠ j → Pf i ≠ Pf j) := by
    intro i j hi hj hij
    rw [← HPf.out]
    have hi' : i = 0 ∨ i = 1 ∨ i = 2 ∨ i = 3 := by omega
    have hj' : j = 0 ∨ j = 1 ∨ j = 2 ∨ j = 3 := by omega
    rcases hi' with rfl | rfl | rfl | rfl <;> rcases hj' with rfl | rfl | rfl | rfl <;> simp [four] at hij ⊢ <;> omega
  have HPlt : Hid (∀ i, i < 4 → w.heap.size ≤ Pf i ∧ Pf i < G) := by
    intro i hi
    rw [← HPf.out]
    have hi' : i = 0 ∨ i = 1 ∨ i = 2 ∨ i = 3 := by omega
    rcases hi' with rfl | rfl | rfl | rfl <;> simp [four] <;> omega
  have HSr : Hid (∀ j, j < 4 → SrcAt (w4.alloc (.cells #[.pointer (some ⟨P0, 0, none⟩), .pointer (some ⟨P1, 0, none⟩), .pointer (some ⟨P2, 0, none⟩), .pointer (some ⟨P3, 0, none⟩)] 52)) (Pf j) s (if j < 0 then k else 0)) := by
    intro j hj
    rw [if_neg (by omega), ← HPf.out]
    have hj' : j = 0 ∨ j = 1 ∨ j = 2 ∨ j = 3 := by omega
    rcases hj' with rfl | rfl | rfl | rfl
    · exact HT3.out.below hba (by rw [HGr.out]; omega)
    · exact HU3.out.below hba (by rw [HGr.out]; omega)
    · exact HV3.out.below hba (by rw [HGr.out]; omega)
    · exact HS4.out.below hba (by rw [HGr.out]; omega)
  have HCr : Hid (∀ j, j < 4 → (w4.alloc (.cells #[.pointer (some ⟨P0, 0, none⟩), .pointer (some ⟨P1, 0, none⟩), .pointer (some ⟨P2, 0, none⟩), .pointer (some ⟨P3, 0, none⟩)] 52)).cell? ⟨G, j, none⟩ = some (.pointer (some ⟨Pf j, 0, none⟩))) := by
    intro j hj
    rw [← HGr.out, hBr.cell j, ← HPf.out]
    have hj' : j = 0 ∨ j = 1 ∨ j = 2 ∨ j = 3 := by omega
    rcases hj' with rfl | rfl | rfl | rfl <;> rfl
  have HB5 := Lib.hid (bthen HB4.out hba)
  have q0 : Pf 0 = P0 := by rw [← HPf.out]; rfl
  have q1 : Pf 1 = P1 := by rw [← HPf.out]; rfl
  have q2 : Pf 2 = P2 := by rw [← HPf.out]; rfl
  have q3 : Pf 3 = P3 := by rw [← HPf.out]; rfl
  rw [← q0, ← q1, ← q2, ← q3] at HSr HCr HB5 ⊢
  rw [HGr.out]
  clear hBr hba HT3 HU3 HV3 HS4 HB4 l0 l1 l2 l3 hP3G hwP HP0 HP1 HP2 HP3 CO CF HPf
  obtain ⟨w5, HW5⟩ : ∃ W, Hid (w4.alloc (.cells #[.pointer (some ⟨Pf 0, 0, none⟩), .pointer (some ⟨Pf 1, 0, none⟩), .pointer (some ⟨Pf 2, 0, none⟩), .pointer (some ⟨Pf 3, 0, none⟩)] 52) = W) := ⟨_, Lib.hid (Eq.refl _)⟩
  rw [HW5.out] at HSr HCr HB5 ⊢
  clear HW5 HGr q0 q1 q2 q3
  clear n1 n2 n3 n4 n5 n6
  go_loopw [75] (fun i_ wr => ∃ i : Nat, i ≤ 4 ∧ i_ = .int .i64 (i : Int) ∧ Hid (∀ j, j < 4 → SrcAt wr (Pf j) s (if j < i then k else 0)) ∧ Hid (∀ j, j < 4 → wr.cell? ⟨G, j, none⟩ = some (.pointer (some ⟨Pf j, 0, none⟩))) ∧ Hid (Below w.heap.size w wr)) (fun i _ => 4 - (intOf i).toNat)
  case atStart => exact ⟨0, by omega, rfl, HSr, HCr, HB5⟩
  case round =>
    clear HSr HCr HB5
    obtain ⟨i, hi, rfl, HSr, HCr, HB5⟩ := hrel
    by_cases hlt : i < 4
    · have hci := HCr.out i hlt
      have d4 : decide ((i : Int) < 4) = true := by rw [decide_eq_true_eq]; omega
      go_wp2_with fail
      go_loopw [15] (fun t_ wr2 => ∃ t : Nat, t ≤ k ∧ t_ = .int .i64 (t : Int) ∧ Hid (SrcAt wr2 (Pf i) s t) ∧ Hid (wr.grownBy wr2 (some (Pf i)))) (fun t _ => k - (intOf t).toNat)
      case atStart => exact ⟨0, by omega, rfl, by have h := HSr.out i hlt; rw [if_neg (by omega)] at h; exact h, Lib.hid ⟨rfl, rfl, rfl, Nat.le_refl _, fun _ _ _ => rfl⟩⟩
      case round =>
        obtain ⟨t, ht, rfl, HSt, HGt⟩ := hrel
        by_cases htk : t < k
        · have CT := Lib.hid (srcTake_any (Pf i) s t 1 1 (.inr (.inl ⟨rfl, by decide⟩)) hs (by omega) _ HSt.out)
          clear HSr HCr HB5 hci
          go_wp2_with fail
          refine CT.out.mono ?_
          rintro e w6 ⟨rfl, hS6, hg6, -⟩
          have HS6 := Lib.hid hS6
          have HG6 := Lib.hid (grownBy_trans HGt.out hg6)
          clear hS6 hg6
          go_wp2_with fail
          go_roundw
          case rel =>
            exact ⟨t + 1, by omega, by go_num, HS6, HG6⟩
          case measure => simp [intOf]; omega
        · obtain rfl : t = k := by omega
          have HS7 : Hid (∀ j, j < 4 → SrcAt wr (Pf j) s (if j < i + 1 then t else 0)) := by
            intro j hj
            by_cases e : j = i
            · subst e; rw [if_pos (by omega)]; exact HSt.out
            · have h := (HSr.out j hj).grown HGt.out (fun e2 => HPne.out j i hj hlt e (by injection e2))
              by_cases e3 : j < i
              · rw [if_pos e3] at h; rw [if_pos (by omega)]; exact h
              · rw [if_neg e3] at h; rw [if_neg (by omega)]; exact h
          have HC7 : Hid (∀ j, j < 4 → wr.cell? ⟨G, j, none⟩ = some (.pointer (some ⟨Pf j, 0, none⟩))) := by
            intro j hj
            exact HGt.out.cell (HCr.out j hj) (fun e => by have h2 := (HPlt.out i hlt).2; injection e with e; have e' : G = Pf i := e; omega)
          have HB7 := Lib.hid (below_row HB5.out HGt.out (HPlt.out i hlt).1)
          clear HSr HCr HB5 hci
          go_wp2_with fail
          go_roundw
          case rel => exact ⟨i + 1, by omega, by go_num, HS7, HC7, HB7⟩
          case measure => simp [intOf]; omega
    · obtain rfl : i = 4 := by omega
      have h0 := HSr.out 0 (by omega)
      have h1 := HSr.out 1 (by omega)
      have h2 := HSr.out 2 (by omega)
      have h3 := HSr.out 3 (by omega)
      rw [if_pos (by omega)] at h0 h1 h2 h3
      have Hh0 := Lib.hid h0
      have Hh1 := Lib.hid h1
      have Hh2 := Lib.hid h2
      have Hh3 := Lib.hid h3
      have L0 := Lib.hid (HPlt.out 0 (by omega)).1
      have L1 := Lib.hid (HPlt.out 1 (by omega)).1
      have L2 := Lib.hid (HPlt.out 2 (by omega)).1
      have L3 := Lib.hid (HPlt.out 3 (by omega)).1
      have N01 := Lib.hid (HPne.out 0 1 (by omega) (by omega) (by omega))
      have N02 := Lib.hid (HPne.out 0 2 (by omega) (by omega) (by omega))
      have N03 := Lib.hid (HPne.out 0 3 (by omega) (by omega) (by omega))
      have N12 := Lib.hid (HPne.out 1 2 (by omega) (by omega) (by omega))
      have N13 := Lib.hid (HPne.out 1 3 (by omega) (by omega) (by omega))
      have N23 := Lib.hid (HPne.out 2 3 (by omega) (by omega) (by omega))
      have CA := Lib.hid (awake3_any)
      obtain ⟨lo, HLo⟩ : ∃ x, Hid (bitsAt s k a = x) := ⟨_, Lib.hid (Eq.refl _)⟩
      obtain ⟨hi, HHi⟩ : ∃ x, Hid (bitsAt s (k + a) b = x) := ⟨_, Lib.hid (Eq.refl _)⟩
      obtain ⟨fi, HFi⟩ : ∃ x, Hid (rev (bitsAt s k a) a = x) := ⟨_, Lib.hid (Eq.refl _)⟩
      obtain ⟨la, HLa⟩ : ∃ x, Hid (rev (bitsAt s (k + a) b) b = x) := ⟨_, Lib.hid (Eq.refl _)⟩
      obtain ⟨X, HX⟩ : ∃ x, Hid (bitsAt s k (a + b) = x) := ⟨_, Lib.hid (Eq.refl _)⟩
      obtain ⟨Y, HY⟩ : ∃ x, Hid (rev (bitsAt s k (a + b)) (a + b) = x) := ⟨_, Lib.hid (Eq.refl _)⟩
      have hlol := bits_lt s k a
      have hhil := bits_lt s (k + a) b
      have hXl := bits_lt s k (a + b)
      have hYl := rev_lt (bitsAt s k (a + b)) (a + b)
      have hfil := rev_lt (bitsAt s k a) a
      have hlal := rev_lt (bitsAt s (k + a) b) b
      have hX := bitsAt_add s k a b
      have hY := rev_bits s k a b
      rw [HLo.out] at hlol
      rw [HHi.out] at hhil
      rw [HX.out] at hXl
      rw [HY.out] at hYl
      rw [HFi.out] at hfil
      rw [HLa.out] at hlal
      rw [HX.out, HLo.out, HHi.out] at hX
      rw [HY.out, HFi.out, HLa.out] at hY
      have p1 := pow32 ha
      have p2 := pow32 (show b ≤ 32 by omega)
      have p3 := pow32 hb
      obtain ⟨H, HH⟩ : ∃ x, Hid (hi * 2 ^ a = x) := ⟨_, Lib.hid (Eq.refl _)⟩
      obtain ⟨F, HF⟩ : ∃ x, Hid (fi * 2 ^ b = x) := ⟨_, Lib.hid (Eq.refl _)⟩
      have f1 : IntKind.u64.wrap ((hi : Int) * 2 ^ a) = (H : Int) := by
        have e : (hi : Int) * 2 ^ a = ((hi * 2 ^ a : Nat) : Int) := by simp
        rw [e, HH.out, IntKind.wrap_u64]
        rw [HH.out] at hX
        omega
      have f2 : IntKind.u64.wrap ((fi : Int) * 2 ^ b) = (F : Int) := by
        have e : (fi : Int) * 2 ^ b = ((fi * 2 ^ b : Nat) : Int) := by simp
        rw [e, HF.out, IntKind.wrap_u64]
        rw [HF.out] at hY
        omega
      have f3 : bits .or .u64 (lo : Int) (H : Int) = (X : Int) := by
        rw [u64_or_nat _ _ (by omega) (by rw [HH.out] at hX; omega), ← HH.out, or_add _ _ _ hlol, ← hX]
      have f4 : bits .or .u64 (F : Int) (la : Int) = (Y : Int) := by
        rw [u64_or_nat _ _ (by rw [HF.out] at hY; omega) (by omega), Nat.or_comm, ← HF.out, or_add _ _ _ hlal, hY, Nat.add_comm]
      have wX : IntKind.u64.wrap (X : Int) = (X : Int) := by rw [IntKind.wrap_u64]; omega
      have wY : IntKind.u64.wrap (Y : Int) = (Y : Int) := by rw [IntKind.wrap_u64]; omega
      have wlo : IntKind.u64.wrap (lo : Int) = (lo : Int) := by rw [IntKind.wrap_u64]; omega
      have whi : IntKind.u64.wrap (hi : Int) = (hi : Int) := by rw [IntKind.wrap_u64]; omega
      have wfi : IntKind.u64.wrap (fi : Int) = (fi : Int) := by rw [IntKind.wrap_u64]; omega
      have wla : IntKind.u64.wrap (la : Int) = (la : Int) := by rw [IntKind.wrap_u64]; omega
      have sab : (a : Int) + (b : Int) = ((a + b : Nat) : Int) := by omega
      have C1 := Lib.hid (fun W h => take_at (Pf 0) s k a lo (k + a) ha HLo.out rfl hs (by omega) W h)
      have C2 := Lib.hid (fun W h => take_at (Pf 0) s (k + a) b hi (k + a + b) (by omega) HHi.out rfl hs (by omega) W h)
      have C3 := Lib.hid (fun W h => turned_at (Pf 2) s k a fi (k + a) ha HFi.out rfl hs (by omega) W h)
      have C4 := Lib.hid (fun W h => turned_at (Pf 2) s (k + a) b la (k + a + b) (by omega) HLa.out rfl hs (by omega) W h)
      have C5 := Lib.hid (fun W h => take_at (Pf 1) s k (a + b) X (k + a + b) hb HX.out (by omega) hs (by omega) W h)
      have C6 := Lib.hid (fun W h => turned_at (Pf 3) s k (a + b) Y (k + a + b) hb HY.out (by omega) hs (by omega) W h)
      obtain ⟨E, HE⟩ : ∃ x, Hid (k + a + b = x) := ⟨_, Lib.hid (Eq.refl _)⟩
      obtain ⟨D, HD⟩ : ∃ x, Hid (k + a = x) := ⟨_, Lib.hid (Eq.refl _)⟩
      rw [HE.out] at C2 C4 C5 C6
      rw [HD.out] at C1 C2 C3 C4
      obtain ⟨m, HM⟩ : ∃ x, Hid (a + b = x) := ⟨_, Lib.hid (Eq.refl _)⟩
      rw [HM.out] at C5 C6 sab
      have hml : m ≤ 32 := by rw [← HM.out]; exact hb
      have sabw : IntKind.i64.wrap ((a : Int) + (b : Int)) = (m : Int) := by rw [sab, IntKind.wrap_i64]; omega
      clear hlol hhil hXl hYl hfil hlal hX hY p1 p2 p3 HLo HHi HFi HLa HX HY HH HF h0 h1 h2 h3 HSr HCr HPne HPlt
      go_wp2_with fail
      refine (C1.out _ Hh0.out).mono ?_
      rintro e v1 ⟨rfl, hS1, hg1, -⟩
      have K1 := Lib.hid (below_row HB5.out hg1 L0.out)
      have A1 := Lib.hid (Hh1.out.grown hg1 (fun e => N01.out (by injection e with e; exact e.symm)))
      have A2 := Lib.hid (Hh2.out.grown hg1 (fun e => N02.out (by injection e with e; exact e.symm)))
      have A3 := Lib.hid (Hh3.out.grown hg1 (fun e => N03.out (by injection e with e; exact e.symm)))
      have A0 := Lib.hid hS1
      clear hS1 hg1 Hh0 Hh1 Hh2 Hh3 C1 HB5
      go_wp2_with fail
      refine (C2.out _ A0.out).mono ?_
      rintro e v2 ⟨rfl, hS1, hg1, -⟩
      have K2 := Lib.hid (below_row K1.out hg1 L0.out)
      have B1 := Lib.hid (A1.out.grown hg1 (fun e => N01.out (by injection e with e; exact e.symm)))
      have B2 := Lib.hid (A2.out.grown hg1 (fun e => N02.out (by injection e with e; exact e.symm)))
      have B3 := Lib.hid (A3.out.grown hg1 (fun e => N03.out (by injection e with e; exact e.symm)))
      have B0 := Lib.hid hS1
      clear hS1 hg1 A0 A1 A2 A3 C2 K1
      go_wp2_with fail
      refine (C3.out _ B2.out).mono ?_
      rintro e v3 ⟨rfl, hS1, hg1, -⟩
      have K3 := Lib.hid (below_row K2.out hg1 L2.out)
      have D0 := Lib.hid (B0.out.grown hg1 (fun e => N02.out (by injection e)))
      have D1 := Lib.hid (B1.out.grown hg1 (fun e => N12.out (by injection e)))
      have D3 := Lib.hid (B3.out.grown hg1 (fun e => N23.out (by injection e with e; exact e.symm)))
      have D2 := Lib.hid hS1
      clear hS1 hg1 B0 B1 B2 B3 C3 K2
      go_wp2_with fail
      refine (C4.out _ D2.out).mono ?_
      rintro e v4 ⟨rfl, hS1, hg1, -⟩
      have K4 := Lib.hid (below_row K3.out hg1 L2.out)
      have E0 := Lib.hid (D0.out.grown hg1 (fun e => N02.out (by injection e)))
      have E1 := Lib.hid (D1.out.grown hg1 (fun e => N12.out (by injection e)))
      have E3 := Lib.hid (D3.out.grown hg1 (fun e => N23.out (by injection e with e; exact e.symm)))
      clear hS1 hg1 D0 D1 D2 D3 C4 K3
      have F0 : SrcAt v4.drew (Pf 0) s E := E0.out
      have F1 : SrcAt v4.drew (Pf 1) s k := E1.out
      have F3 : SrcAt v4.drew (Pf 3) s k := E3.out
      have K5 := Lib.hid K4.out.drew
      have HF0 := Lib.hid F0
      have HF1 := Lib.hid F1
      have HF3 := Lib.hid F3
      clear F0 F1 F3 E0 E1 E3 K4
      go_wp2_with fail
      have ma : min a 64 = a := by omega
      have mb : min b 64 = b := by omega
      clear sab hk ha hb hml hlt hs hsz Hs hwG
      have K5o := K5.out
      go_region_held3 (fun W => Below w.heap.size w W) (first | go_keep | assumption)
        (first
          | (go_at_call 16; refine (CA.out _).mono ?_; rintro e v5 ⟨rfl, hb5⟩; have G0 := Lib.hid (HF0.out.below hb5 HF0.out.lt); have G1 := Lib.hid (HF1.out.below hb5 HF1.out.lt); have G3 := Lib.hid (HF3.out.below hb5 HF3.out.lt); have K6 : Below w.heap.size w v5 := K5.out.trans (hb5.mono K5.out.size); clear hb5)
          | (go_at_call 30; refine (C5.out _ G1.out).mono ?_; rintro e v6 ⟨rfl, hS1, hg1, -⟩; have I0 := Lib.hid (G0.out.grown hg1 (fun e => N01.out (by injection e))); have I3 := Lib.hid (G3.out.grown hg1 (fun e => N13.out (by injection e with e; exact e.symm))); have I1 := Lib.hid hS1; have K7 : Below w.heap.size w v6 := below_row K6 hg1 L1.out; clear hS1 hg1)
          | (go_at_call 31; refine (C6.out _ I3.out).mono ?_; rintro e v7 ⟨rfl, hS1, hg1, -⟩; have J0 := Lib.hid (I0.out.grown hg1 (fun e => N03.out (by injection e))); have J1 := Lib.hid (I1.out.grown hg1 (fun e => N13.out (by injection e))); have K8 : Below w.heap.size w v7 := below_row K7 hg1 L3.out; clear hS1 hg1)
          | (go_at_call 32; refine (srcPlace_any (Pf 0) s E _ J0.out).mono ?_; rintro e v8 ⟨rfl, rfl⟩)
          | (go_at_call 32; refine (srcPlace_any (Pf 1) s E _ J1.out).mono ?_; rintro e v8 ⟨rfl, rfl⟩))
      all_goals
        rename_i hh
        go_wp2_with fail
        go_ret
        exact ⟨rfl, hh⟩
end Go.Proofs.Ytginjnpboggnbaa
