/- bits.Get and the document's Get: the number of bytes, the lowest first, of the first eight. Conditions: none. -/
import Derived.Test.YtbccljpbnbobmaaBase
namespace Go.Proofs.Ytbccljpbnbobmaa
open Go.RowKit

/-- The number of bytes, the lowest first. -/
def getN : List UInt8 → Nat
  | [] => 0
  | c :: r => c.toNat + 256 * getN r

theorem getN_lt (l : List UInt8) : getN l < 256 ^ l.length := by
  induction l with
  | nil => simp [getN]
  | cons c r ih =>
    have hc : c.toNat < 256 := c.toNat_lt
    simp only [getN, List.length_cons, Nat.pow_succ]
    omega

theorem getN_snoc (l : List UInt8) (c : UInt8) : getN (l ++ [c]) = getN l + 256 ^ l.length * c.toNat := by
  induction l with
  | nil => simp [getN]
  | cons d r ih => simp only [List.cons_append, getN, ih, List.length_cons, Nat.pow_succ]; rw [Nat.mul_add, ← Nat.mul_assoc, Nat.mul_comm (256 ^ r.length) 256]; omega

theorem data_get (s : ByteArray) (k : Nat) (h : k < s.size) : s.data.toList[k]'(by simpa using h) = s[k] := rfl

theorem take8_drop (s : ByteArray) (k : Nat) (h : k < s.size) (h8 : k < 8) : (s.data.toList.take 8).drop k = s[k] :: (s.data.toList.take 8).drop (k + 1) := by
  have hl : k < (s.data.toList.take 8).length := by simp; omega
  rw [List.drop_eq_getElem_cons hl, List.getElem_take]
  rfl

theorem drop_bound (s : ByteArray) (k : Nat) (h : 1 ≤ k) : getN ((s.data.toList.take 8).drop k) < 256 ^ 7 := by
  refine Nat.lt_of_lt_of_le (getN_lt _) (Nat.pow_le_pow_right (by decide) ?_)
  simp; omega

theorem shl_or (g c : Nat) (hg : g < 256 ^ 7) (hc : c < 256) : (bits .or .u64 ((g : Int) * 256) (c : Int)) = ((c + 256 * g : Nat) : Int) := by
  have h1 : (g : Int) * 256 = ((g * 256 : Nat) : Int) := by omega
  rw [h1, u64_or_nat _ _ (by omega) (by omega), nat_join 8 _ _ (by omega) (by omega)]
  congr 1; omega

theorem get_any (s : ByteArray) (w : World) (hs : s.size ≤ maxLen) :
    Calls Try.prog 22 #[.string s] w fun e w' => e = .returned (.int .u64 (getN (s.data.toList.take 8) : Int)) ∧ w = w' := by
  unfold maxLen at hs
  by_cases h8 : s.size ≤ 8
  all_goals
    go_enter Try.func22, Try.ntmps22
    go_wp2
    go_loop [3, 4] (fun x i => ∃ k : Nat, k ≤ s.size ∧ k ≤ 8 ∧ i = .int .i64 ((k : Int) - 1) ∧ x = .int .u64 (getN ((s.data.toList.take 8).drop k) : Int))
      (fun _ i => (intOf i + 1).toNat)
    case atStart =>
      first
      | exact ⟨s.size, by omega, by omega, rfl, by rw [List.drop_of_length_le (by simp; omega)]; rfl⟩
      | exact ⟨8, by omega, by omega, rfl, by rw [List.drop_of_length_le (by simp; omega)]; rfl⟩
    case round =>
      obtain ⟨k, hk, hk8, rfl, rfl⟩ := hrel
      rcases k with _ | k
      · go_wp2
        go_ret
        exact ⟨by simp, rfl⟩
      · have hb := drop_bound s (k + 1) (by omega)
        have hd := Lib.hid (take8_drop s k (by omega) (by omega))
        have hc := s[k].toNat_lt
        have ho := shl_or _ _ hb hc
        go_wp2
        go_round
        case rel => exact ⟨k, by omega, by omega, rfl, by rw [hd.out]; simp [getN]⟩
        case measure => simp [intOf]
theorem take8_succ (s : ByteArray) (k : Nat) (h : k < s.size) (h8 : k < 8) : getN ((s.data.toList.take 8).take (k + 1)) = getN ((s.data.toList.take 8).take k) + 256 ^ k * s[k].toNat := by
  have hl : k < (s.data.toList.take 8).length := by simp; omega
  rw [List.take_succ_eq_append_getElem hl, getN_snoc]
  rw [List.length_take, List.getElem_take]
  have : min k (s.data.toList.take 8).length = k := by omega
  rw [this]
  rfl

theorem take_bound (s : ByteArray) (k : Nat) : getN ((s.data.toList.take 8).take k) < 256 ^ k := by
  refine Nat.lt_of_lt_of_le (getN_lt _) (Nat.pow_le_pow_right (by decide) ?_)
  simp; omega

theorem pow_small (k : Nat) (h : k < 8) : 256 ^ k ≤ 256 ^ 7 := Nat.pow_le_pow_right (by decide) (by omega)

theorem unit_step (k : Nat) (h : k < 8) (u : Nat) (hu : u = if k < 8 then 256 ^ k else 0) : u * 256 % 18446744073709551616 = if k + 1 < 8 then 256 ^ (k + 1) else 0 := by
  rw [if_pos h] at hu
  subst hu
  match k, h with
  | 0, _ => rfl
  | 1, _ => rfl
  | 2, _ => rfl
  | 3, _ => rfl
  | 4, _ => rfl
  | 5, _ => rfl
  | 6, _ => rfl
  | 7, _ => rfl

def unitAt (k : Nat) : Nat := if k < 8 then 256 ^ k else 0

theorem unit_succ (k : Nat) (h : k < 8) : unitAt k * 256 % 18446744073709551616 = unitAt (k + 1) := unit_step k h _ rfl
theorem unit_le (k : Nat) : unitAt k ≤ 256 ^ 7 := by
  unfold unitAt; split
  · exact pow_small k (by assumption)
  · exact Nat.zero_le _

theorem get_add (g c k : Nat) (hk : k < 8) (hg : g < 256 ^ k) (hc : c < 256) :
    IntKind.u64.wrap ((g : Int) + IntKind.u64.wrap ((c : Int) * (unitAt k : Int))) = ((g + 256 ^ k * c : Nat) : Int) := by
  rw [IntKind.wrap_u64, IntKind.wrap_u64]
  unfold unitAt
  rw [if_pos hk]
  match k, hk with
  | 0, _ => simp at hg ⊢; omega
  | 1, _ => simp at hg ⊢; omega
  | 2, _ => simp at hg ⊢; omega
  | 3, _ => simp at hg ⊢; omega
  | 4, _ => simp at hg ⊢; omega
  | 5, _ => simp at hg ⊢; omega
  | 6, _ => simp at hg ⊢; omega
  | 7, _ => simp at hg ⊢; omega

theorem refGet_any (s : ByteArray) (w : World) (hs : s.size ≤ maxLen) :
    Calls Try.prog 23 #[.string s] w fun e w' => e = .returned (.int .u64 (getN (s.data.toList.take 8) : Int)) ∧ w = w' := by
  unfold maxLen at hs
  go_enter Try.func23, Try.ntmps23
  go_wp2
  go_loop [3, 4, 5] (fun x u i => ∃ k : Nat, k ≤ s.size ∧ k ≤ 8 ∧ i = .int .i64 (k : Int) ∧ x = .int .u64 (getN ((s.data.toList.take 8).take k) : Int) ∧ u = .int .u64 (unitAt k : Int))
    (fun _ _ i => 8 - (intOf i).toNat)
  case atStart => exact ⟨0, by omega, by omega, rfl, rfl, rfl⟩
  case round =>
    obtain ⟨k, hk, hk8, rfl, rfl, rfl⟩ := hrel
    by_cases h1 : k < s.size
    · by_cases h2 : k < 8
      · have hb := take_bound s k
        have hc := s[k].toNat_lt
        have hu := unit_le k
        have hsu := Lib.hid (unit_succ k h2)
        have hd := Lib.hid (take8_succ s k h1 h2)
        go_wp2
        go_round
        case rel => exact ⟨k + 1, by omega, by omega, by go_num, by rw [hd.out, get_add _ _ _ h2 hb hc], by rw [← hsu.out, IntKind.wrap_u64]; rfl⟩
        case measure => simp [intOf]; omega
      · go_wp2
        go_ret
        obtain rfl : k = 8 := by omega
        exact ⟨by rw [List.take_of_length_le (by simp; omega)]; rfl, rfl⟩
    · go_wp2
      go_ret
      exact ⟨by rw [List.take_of_length_le (by simp; omega)]; rfl, rfl⟩
end Go.Proofs.Ytbccljpbnbobmaa
