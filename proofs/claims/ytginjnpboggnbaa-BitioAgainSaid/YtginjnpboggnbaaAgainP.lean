/- What acts put, and that it is found again: plain. Conditions: none. -/
import Derived.Test.YtginjnpboggnbaaAct
import Derived.Test.YtginjnpboggnbaaSource3
import Derived.Test.YtginjnpboggnbaaFew
namespace Go.Proofs.Ytginjnpboggnbaa
open Go.RowKit

/-- The nearest of 0 to 32. -/
def kOf (N : Int) : Nat := if N < 0 then 0 else if 32 < N then 32 else N.toNat
theorem kOf_clamp (N : Int) : Clamp N (kOf N) := by
  unfold Clamp kOf
  split
  · exact .inl ⟨by assumption, rfl⟩
  · split
    · exact .inr (.inr ⟨by assumption, rfl⟩)
    · exact .inr (.inl ⟨by omega, by omega⟩)
theorem kOf_le (N : Int) : kOf N ≤ 32 := by unfold kOf; split <;> (try split) <;> omega
/-- Where an act's bits begin, how many there are, and which. -/
def acSt (q : Ac) (c : Nat) : Nat := if q.kind = 2 ∨ q.kind = 3 then (c + 7) / 8 * 8 else c
def acLn (q : Ac) : Nat := if q.kind = 0 ∨ q.kind = 1 then kOf q.n else if q.kind = 3 then 8 * (few q.s 40).size else 0
def acZ (q : Ac) : Nat := if q.kind = 0 then q.x % 2 ^ kOf q.n else if q.kind = 1 then rev q.x (kOf q.n) else if q.kind = 3 then num (few q.s 40) else 0
theorem num_lt (s : ByteArray) : num s < 2 ^ (8 * s.size) := by
  have := leN_lt s.data.toList
  rw [show s.data.toList.length = s.size by simp, pow256] at this
  exact this
theorem acSt_ge (q : Ac) (c : Nat) : c ≤ acSt q c := by unfold acSt; split <;> omega
theorem acSt_le (q : Ac) (c : Nat) : acSt q c ≤ c + 7 := by unfold acSt; split <;> omega
theorem acLn_le (q : Ac) : acLn q ≤ 320 := by
  unfold acLn
  have h1 := kOf_le q.n
  have h2 := few_size q.s 40
  split
  · omega
  · split <;> omega
theorem acZ_lt (q : Ac) : acZ q < 2 ^ acLn q := by
  unfold acZ acLn
  by_cases h0 : q.kind = 0
  · rw [if_pos h0, if_pos (.inl h0)]; exact Nat.mod_lt _ (pow_pos2 _)
  · by_cases h1 : q.kind = 1
    · rw [if_neg h0, if_pos h1, if_pos (.inr h1)]; exact rev_lt _ _
    · rw [if_neg h0, if_neg h1, if_neg (show ¬ (q.kind = 0 ∨ q.kind = 1) from fun h => h.elim h0 h1)]
      by_cases h3 : q.kind = 3
      · rw [if_pos h3, if_pos h3]; exact num_lt _
      · rw [if_neg h3, if_neg h3]; decide
/-- How many bits, and which, ahead of act i. -/
def posA (S : List Ac) : Nat → Nat
  | 0 => 0
  | i + 1 => acSt (ac S i) (posA S i) + acLn (ac S i)
def valA (S : List Ac) : Nat → Nat
  | 0 => 0
  | i + 1 => valA S i + acZ (ac S i) * 2 ^ acSt (ac S i) (posA S i)
theorem posA_le (S : List Ac) (i : Nat) : posA S i ≤ i * 400 := by
  induction i with
  | zero => exact Nat.le_refl _
  | succ i ih =>
    have h1 := acSt_le (ac S i) (posA S i)
    have h2 := acLn_le (ac S i)
    show acSt (ac S i) (posA S i) + acLn (ac S i) ≤ _
    omega
theorem posA_succ (S : List Ac) (i : Nat) : posA S i ≤ posA S (i + 1) := by
  have h1 := acSt_ge (ac S i) (posA S i)
  show _ ≤ acSt (ac S i) (posA S i) + acLn (ac S i)
  omega
theorem posA_mono (S : List Ac) (i j : Nat) (h : i ≤ j) : posA S i ≤ posA S j := by
  induction j with
  | zero => obtain rfl : i = 0 := by omega
            exact Nat.le_refl _
  | succ j ih =>
    by_cases e : i = j + 1
    · rw [e]; exact Nat.le_refl _
    · exact Nat.le_trans (ih (by omega)) (posA_succ S j)
theorem valA_lt (S : List Ac) (i : Nat) : valA S i < 2 ^ posA S i := by
  induction i with
  | zero => exact (by decide : 0 < 2 ^ 0)
  | succ i ih =>
    have h1 := acZ_lt (ac S i)
    have h2 : valA S i < 2 ^ acSt (ac S i) (posA S i) := Nat.lt_of_lt_of_le ih (Nat.pow_le_pow_right (by decide) (acSt_ge _ _))
    show valA S i + acZ (ac S i) * 2 ^ acSt (ac S i) (posA S i) < 2 ^ (acSt (ac S i) (posA S i) + acLn (ac S i))
    have h3 := Nat.mul_le_mul_right (2 ^ acSt (ac S i) (posA S i)) (show acZ (ac S i) + 1 ≤ 2 ^ acLn (ac S i) from h1)
    rw [Nat.add_mul, Nat.one_mul, ← Nat.pow_add, Nat.add_comm (acLn (ac S i))] at h3
    omega
/-- The first bits stay. -/
theorem valA_mod (S : List Ac) (i m : Nat) (h : i ≤ m) : valA S m % 2 ^ posA S i = valA S i := by
  induction m with
  | zero =>
    obtain rfl : i = 0 := by omega
    exact Nat.mod_eq_of_lt (valA_lt S 0)
  | succ m ih =>
    by_cases e : i = m + 1
    · rw [e]; exact Nat.mod_eq_of_lt (valA_lt S (m + 1))
    · have h1 := posA_mono S i m (by omega)
      have h2 := acSt_ge (ac S m) (posA S m)
      show (valA S m + acZ (ac S m) * 2 ^ acSt (ac S m) (posA S m)) % 2 ^ posA S i = _
      have e2 : acSt (ac S m) (posA S m) = posA S i + (acSt (ac S m) (posA S m) - posA S i) := by omega
      rw [e2, Nat.pow_add, Nat.mul_left_comm, Nat.add_mul_mod_self_left]
      exact ih (by omega)
/-- What was put is there. -/
theorem valA_at (S : List Ac) (i m : Nat) (h : i < m) : valA S m / 2 ^ acSt (ac S i) (posA S i) % 2 ^ acLn (ac S i) = acZ (ac S i) := by
  have h1 := valA_mod S (i + 1) m h
  have e : posA S (i + 1) = acSt (ac S i) (posA S i) + acLn (ac S i) := rfl
  rw [e, Nat.pow_add] at h1
  rw [← Nat.mod_mul_right_div_self, h1]
  have h2 : valA S i < 2 ^ acSt (ac S i) (posA S i) := Nat.lt_of_lt_of_le (valA_lt S i) (Nat.pow_le_pow_right (by decide) (acSt_ge _ _))
  show (valA S i + acZ (ac S i) * 2 ^ acSt (ac S i) (posA S i)) / 2 ^ acSt (ac S i) (posA S i) = _
  rw [Nat.add_mul_div_right _ _ (pow_pos2 _), Nat.div_eq_of_lt h2, Nat.zero_add]

/-- The bytes of a stretch. -/
theorem leN_drop (l : List UInt8) (q : Nat) (h : q ≤ l.length) : leN (l.drop q) = leN l / 256 ^ q := by
  have e := leN_append (l.take q) (l.drop q)
  rw [List.take_append_drop, List.length_take, Nat.min_eq_left h] at e
  have hl := leN_lt (l.take q)
  rw [List.length_take, Nat.min_eq_left h] at hl
  rw [e, Nat.add_mul_div_right _ _ (Nat.pow_pos (by decide)), Nat.div_eq_of_lt hl, Nat.zero_add]
theorem leN_take (l : List UInt8) (q : Nat) (h : q ≤ l.length) : leN (l.take q) = leN l % 256 ^ q := by
  have e := leN_append (l.take q) (l.drop q)
  rw [List.take_append_drop, List.length_take, Nat.min_eq_left h] at e
  have hl := leN_lt (l.take q)
  rw [List.length_take, Nat.min_eq_left h] at hl
  rw [e, Nat.add_mul_mod_self_right, Nat.mod_eq_of_lt hl]
theorem ba_ext {s t : ByteArray} (h : s.data.toList = t.data.toList) : s = t := by
  cases s with
  | mk d => cases t with
    | mk e =>
      have : d = e := by
        apply Array.toList_inj.1
        exact h
      rw [this]
/-- The text of a stretch of bytes. -/
theorem extract_num (s t : ByteArray) (q : Nat) (hq : q + t.size ≤ s.size) (h : num s / 2 ^ (8 * q) % 2 ^ (8 * t.size) = num t) : s.extract q (q + t.size) = t := by
  apply ba_ext
  have e : (s.extract q (q + t.size)).data.toList = (s.data.toList.drop q).take t.size := by
    rw [ByteArray.data_extract, Array.toList_extract, List.extract_eq_take_drop]
    congr 1
    omega
  rw [e]
  have hs : s.data.toList.length = s.size := by simp
  have ht : t.data.toList.length = t.size := by simp
  refine leN_inj _ _ (by rw [List.length_take, List.length_drop, hs, ht]; omega) ?_
  rw [leN_take _ _ (by rw [List.length_drop, hs]; omega), leN_drop _ _ (by rw [hs]; omega), pow256, pow256]
  exact h
end Go.Proofs.Ytginjnpboggnbaa
