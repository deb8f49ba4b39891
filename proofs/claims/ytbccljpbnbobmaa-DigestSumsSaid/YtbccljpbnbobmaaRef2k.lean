/- The padded text's bits and words. Plain. Conditions: none. -/
import Derived.Test.YtbccljpbnbobmaaRef2g
import Derived.Test.YtbccljpbnbobmaaShaH
namespace Go.Proofs.Ytbccljpbnbobmaa
open Go.RowKit
set_option maxRecDepth 100000

theorem textT_append (a b : List UInt8) : textT (a ++ b) = textT a ++ textT b := by unfold textT; rw [List.flatMap_append]
theorem textT_zeros (z : Nat) : textT (List.replicate z 0) = List.replicate (8 * z) false := by
  induction z with
  | zero => rfl
  | succ z ih =>
    have e : textT (List.replicate (z + 1) 0) = byteT 0 8 ++ textT (List.replicate z 0) := rfl
    have e2 : byteT 0 8 = List.replicate 8 false := by decide
    rw [e, ih, e2, List.replicate_append_replicate]
    congr 1
    omega
theorem numT_more (m a k : Nat) : numT m (a + k) = numT m a ++ (List.range k).map fun i => (m / 2 ^ (63 - (a + i))) % 2 == 1 := by
  induction k with
  | zero => simp
  | succ k ih => rw [← Nat.add_assoc, numT_succ, ih, List.range_succ, List.map_append, List.append_assoc]; rfl
theorem low_bit (x e r : Nat) (h : e + r = 7) : (x % 256 / 2 ^ e) % 2 = x / 2 ^ e % 2 := by
  have h2 : (256 : Nat) = 2 ^ e * 2 * 2 ^ r := by
    rw [Nat.mul_assoc, Nat.mul_comm 2 (2 ^ r), ← Nat.pow_succ, ← Nat.pow_add, show e + (r + 1) = 8 by omega]
  rw [h2, Nat.mul_assoc, Nat.mod_mul_right_div_self, Nat.mod_mul_right_mod]
theorem be8_bits (m k : Nat) (hk : k ≤ 8) : textT (be8 m k) = numT m (8 * k) := by
  induction k with
  | zero => rfl
  | succ k ih =>
    rw [be8_succ, textT_append, ih (by omega), show 8 * (k + 1) = 8 * k + 8 by omega, numT_more]
    congr 1
    show byteT (shb m k).toNat 8 ++ [] = _
    rw [List.append_nil]
    unfold byteT shb
    refine List.map_congr_left fun i hi => ?_
    have hi : i < 8 := List.mem_range.1 hi
    have e1 : (UInt8.ofNat (m / 2 ^ (56 - 8 * k) % 256)).toNat = m / 2 ^ (56 - 8 * k) % 256 := by
      rw [UInt8.toNat_ofNat']
      omega
    rw [e1, low_bit _ (7 - i) i (by omega), Nat.div_div_eq_div_mul, ← Nat.pow_add, show 56 - 8 * k + (7 - i) = 63 - (8 * k + i) by omega]
theorem bits_sha (s : ByteArray) : bitsT s = textT (shaT s.data.toList) := by
  have hl : s.data.toList.length = s.size := by simp
  unfold bitsT shaT padL
  rw [textT_append, hl]
  have e1 : (128 :: List.replicate ((119 - (s.size - 64 * (s.size / 64))) % 64) 0 ++ be8 (s.size * 8) 8 : List UInt8) = [128] ++ List.replicate ((119 - (s.size - 64 * (s.size / 64))) % 64) 0 ++ be8 (s.size * 8) 8 := rfl
  rw [e1, textT_append, textT_append, textT_zeros, be8_bits _ 8 (by omega)]
  have e2 : textT [128] = [true] ++ List.replicate 7 false := by decide
  rw [e2, Nat.mul_comm s.size 8]
  simp only [List.append_assoc]
  congr 2
  rw [← List.append_assoc, List.replicate_append_replicate]
  congr 2
  unfold padN
  omega
theorem shaT_len (l : List UInt8) : (shaT l).length % 64 = 0 ∧ l.length ≤ (shaT l).length ∧ 64 ≤ (shaT l).length ∧ (shaT l).length ≤ l.length + 80 := by
  have := padL_small (l.length - 64 * (l.length / 64)) l.length
  unfold shaT
  rw [List.length_append]
  unfold padL at this ⊢
  simp only [List.length_append, List.length_cons, List.length_replicate, be8_len] at this ⊢
  omega
theorem byteT_at (c r : Nat) (hr : r < 8) : (byteT c 8)[r]? = some ((c / 2 ^ (7 - r)) % 2 == 1) := by
  unfold byteT
  rw [List.getElem?_map, List.getElem?_range hr]
  rfl
theorem textT_at : ∀ (l : List UInt8) (j r : Nat), j < l.length → r < 8 → (textT l)[8 * j + r]? = some (((l.getD j 0).toNat / 2 ^ (7 - r)) % 2 == 1) := by
  intro l
  induction l with
  | nil => intro j r hj; exact absurd hj (Nat.not_lt_zero _)
  | cons c t ih =>
    intro j r hj hr
    have e : textT (c :: t) = byteT c.toNat 8 ++ textT t := rfl
    have hl : (byteT c.toNat 8).length = 8 := byteT_len _ _
    rw [e]
    cases j with
    | zero =>
      rw [List.getElem?_append_left (by rw [hl]; omega), Nat.mul_zero, Nat.zero_add, byteT_at _ _ hr]
      rfl
    | succ j =>
      rw [List.getElem?_append_right (by rw [hl]; omega), hl, show 8 * (j + 1) + r - 8 = 8 * j + r by omega]
      exact ih j r (by simpa using hj) hr
theorem word4_bit (a b c d q t r : Nat) (hb : b < 256) (hc : c < 256) (hd : d < 256) (ha : a < 256) (ht : t < 4) (hr : r < 8) (hq : q = 8 * t + r) :
    wbit (word4 a b c d) q = (([a, b, c, d].getD t 0 / 2 ^ (7 - r)) % 2 == 1) := by
  unfold wbit
  have e : 31 - q = 24 - 8 * t + (7 - r) := by omega
  rw [e, Nat.pow_add, ← Nat.div_div_eq_div_mul]
  have key : word4 a b c d / 2 ^ (24 - 8 * t) % 256 = [a, b, c, d].getD t 0 := by
    unfold word4
    match t, ht with
    | 0, _ => show _ / 2 ^ 24 % 256 = a; omega
    | 1, _ => show _ / 2 ^ 16 % 256 = b; omega
    | 2, _ => show _ / 2 ^ 8 % 256 = c; omega
    | 3, _ => show _ / 2 ^ 0 % 256 = d; omega
  rw [← low_bit _ (7 - r) r (by omega), key]
/-- A word's bit is one of the text. -/
theorem word_bit (P : List UInt8) (k i q : Nat) (hk : 64 * k + 64 ≤ P.length) (hi : i < 16) (hq : q < 32) :
    (textT P)[512 * k + (32 * i + q)]? = some (wbit (wordB ((P.drop (64 * k)).take 64) i) q) := by
  have hg : ∀ t, t < 4 → (((P.drop (64 * k)).take 64).getD (4 * i + t) 0) = P.getD (64 * k + (4 * i + t)) 0 := fun t ht => by
    simp only [List.getD_eq_getElem?_getD]
    rw [List.getElem?_take, if_pos (by omega), List.getElem?_drop]
  have h := word4_bit (P.getD (64 * k + 4 * i) 0).toNat (P.getD (64 * k + (4 * i + 1)) 0).toNat (P.getD (64 * k + (4 * i + 2)) 0).toNat (P.getD (64 * k + (4 * i + 3)) 0).toNat q (q / 8) (q % 8) (UInt8.toNat_lt _) (UInt8.toNat_lt _) (UInt8.toNat_lt _) (UInt8.toNat_lt _) (by omega) (by omega) (by omega)
  have hw : wordB ((P.drop (64 * k)).take 64) i = word4 (P.getD (64 * k + 4 * i) 0).toNat (P.getD (64 * k + (4 * i + 1)) 0).toNat (P.getD (64 * k + (4 * i + 2)) 0).toNat (P.getD (64 * k + (4 * i + 3)) 0).toNat := by
    unfold wordB
    rw [hg 1 (by omega), hg 2 (by omega), hg 3 (by omega), show 4 * i = 4 * i + 0 from rfl, hg 0 (by omega)]
  rw [hw, h, show 512 * k + (32 * i + q) = 8 * (64 * k + (4 * i + q / 8)) + q % 8 by omega, textT_at P _ _ (by omega) (by omega)]
  have ht : q / 8 < 4 := by omega
  generalize q / 8 = t at ht ⊢
  match t, ht with
  | 0, _ => rfl
  | 1, _ => rfl
  | 2, _ => rfl
  | 3, _ => rfl
end Go.Proofs.Ytbccljpbnbobmaa
