/- Bits as one number, the lowest first, in plain numbers. Conditions: none. -/
import Derived.WalkKit
namespace Go.Proofs.Ytahgeeklenojjaa

/-- The first k bytes of V. -/
def bytesN (V k : Nat) : List UInt8 := (List.range k).map fun i => UInt8.ofNat (V / 256 ^ i % 256)
theorem bytesN_length (V k : Nat) : (bytesN V k).length = k := by simp [bytesN]
theorem bytesN_succ (V k : Nat) : bytesN V (k + 1) = bytesN V k ++ [UInt8.ofNat (V / 256 ^ k % 256)] := by simp [bytesN, List.range_succ]
theorem bytesN_at (V k i : Nat) (h : i < k) : (bytesN V k)[i]? = some (UInt8.ofNat (V / 256 ^ i % 256)) := by simp [bytesN, h]
/-- The number of bytes. -/
def leN : List UInt8 → Nat
  | [] => 0
  | c :: r => c.toNat + 256 * leN r

theorem pow256 (k : Nat) : 256 ^ k = 2 ^ (8 * k) := by rw [Nat.pow_mul]
theorem pow_pos2 (k : Nat) : 0 < 2 ^ k := Nat.pow_pos (by decide)

theorem leN_lt (l : List UInt8) : leN l < 256 ^ l.length := by
  induction l with
  | nil => simp [leN]
  | cons c r ih =>
    have := c.toNat_lt
    simp only [leN, List.length_cons, Nat.pow_succ]
    omega
theorem leN_append (l m : List UInt8) : leN (l ++ m) = leN l + leN m * 256 ^ l.length := by
  induction l with
  | nil => simp [leN]
  | cons c r ih =>
    simp only [leN, List.cons_append, List.length_cons, ih, Nat.pow_succ, Nat.mul_add]
    have : 256 * (leN m * 256 ^ r.length) = leN m * (256 ^ r.length * 256) := by rw [Nat.mul_left_comm, Nat.mul_comm 256]
    omega
theorem leN_bytesN (V k : Nat) : leN (bytesN V k) = V % 256 ^ k := by
  induction k with
  | zero => simp [bytesN, leN]; omega
  | succ k ih =>
    rw [bytesN_succ, leN_append, ih, bytesN_length, Nat.pow_succ, Nat.mod_mul]
    simp [leN]
    exact Nat.mul_comm _ _
theorem leN_inj (l m : List UInt8) (hl : l.length = m.length) (h : leN l = leN m) : l = m := by
  induction l generalizing m with
  | nil => cases m with
    | nil => rfl
    | cons => simp at hl
  | cons c r ih => cases m with
    | nil => simp at hl
    | cons d t =>
      have h1 := c.toNat_lt
      have h2 := d.toNat_lt
      simp only [leN] at h
      have e1 : c.toNat = d.toNat := by omega
      have e2 : leN r = leN t := by omega
      rw [UInt8.toNat_inj.1 e1, ih t (by simpa using hl) e2]
theorem bytesN_leN (l : List UInt8) : bytesN (leN l) l.length = l := by
  refine leN_inj _ _ (bytesN_length _ _) ?_
  rw [leN_bytesN, Nat.mod_eq_of_lt (leN_lt l)]

/-- A byte of the text. -/
theorem leN_byte (l : List UInt8) (i : Nat) (h : i < l.length) : leN l / 256 ^ i % 256 = (l[i]).toNat := by
  have e := bytesN_at (leN l) l.length i h
  rw [bytesN_leN, List.getElem?_eq_getElem h] at e
  injection e with e
  rw [e]
  simp
theorem leN_out (l : List UInt8) (i : Nat) (h : ¬ i < l.length) : leN l / 256 ^ i % 256 = 0 := by
  rw [Nat.div_eq_of_lt]
  exact Nat.lt_of_lt_of_le (leN_lt l) (Nat.pow_le_pow_right (by decide) (by omega))

theorem bytesN_low (V z c k : Nat) (h : 8 * k ≤ c) : bytesN (V + z * 2 ^ c) k = bytesN V k := by
  unfold bytesN
  refine List.map_congr_left fun i hi => ?_
  have hik : i < k := List.mem_range.1 hi
  have e : z * 2 ^ c = 2 ^ (8 * i) * (z * 2 ^ (c - 8 * i - 8) * 256) := by
    have : (2 : Nat) ^ c = 2 ^ (8 * i) * 2 ^ (c - 8 * i - 8) * 256 := by
      rw [show (256 : Nat) = 2 ^ 8 by decide, ← Nat.pow_add, ← Nat.pow_add]
      congr 1; omega
    rw [this]
    simp only [Nat.mul_comm, Nat.mul_left_comm, Nat.mul_assoc]
  rw [pow256, e, Nat.add_mul_div_left _ _ (pow_pos2 _), Nat.add_mul_mod_self_right]

/-- A number that is put behind the first c bits. -/
theorem put_lt (V x n c : Nat) (hV : V < 2 ^ c) : V + x % 2 ^ n * 2 ^ c < 2 ^ (c + n) := by
  have h1 : x % 2 ^ n < 2 ^ n := Nat.mod_lt _ (pow_pos2 n)
  have h2 : (x % 2 ^ n + 1) * 2 ^ c ≤ 2 ^ n * 2 ^ c := Nat.mul_le_mul_right _ h1
  rw [Nat.add_mul, Nat.one_mul] at h2
  rw [Nat.add_comm c n, Nat.pow_add]
  omega
theorem put_hi (V z c k : Nat) (h : k ≤ c) : (V + z * 2 ^ c) / 2 ^ k = V / 2 ^ k + z * 2 ^ (c - k) := by
  have e : z * 2 ^ c = 2 ^ k * (z * 2 ^ (c - k)) := by
    have : (2 : Nat) ^ c = 2 ^ k * 2 ^ (c - k) := by rw [← Nat.pow_add]; congr 1; omega
    rw [this]
    simp only [Nat.mul_left_comm]
  rw [e, Nat.add_mul_div_left _ _ (pow_pos2 _)]
theorem or_add (a b n : Nat) (h : a < 2 ^ n) : a ||| b * 2 ^ n = a + b * 2 ^ n := by
  have := Nat.shiftLeft_add_eq_or_of_lt h b
  rw [Nat.shiftLeft_eq] at this
  rw [Nat.or_comm, ← this, Nat.add_comm]
theorem and_mask (x n : Nat) : x &&& (2 ^ n - 1) = x % 2 ^ n := Nat.and_two_pow_sub_one_eq_mod x n

/-- The first n bits the other way about. -/
def rev (x : Nat) : Nat → Nat
  | 0 => 0
  | n + 1 => 2 * rev x n + x / 2 ^ n % 2
theorem rev_lt (x n : Nat) : rev x n < 2 ^ n := by
  induction n with
  | zero => simp [rev]
  | succ n ih => simp only [rev, Nat.pow_succ]; omega
theorem rev_mod (x n m : Nat) (h : n ≤ m) : rev (x % 2 ^ m) n = rev x n := by
  induction n with
  | zero => rfl
  | succ n ih =>
    have e : x % 2 ^ m / 2 ^ n % 2 = x / 2 ^ n % 2 := by
      have e1 : x % 2 ^ m / 2 ^ n = x / 2 ^ n % 2 ^ (m - n) := by
        have : (2 : Nat) ^ m = 2 ^ n * 2 ^ (m - n) := by rw [← Nat.pow_add]; congr 1; omega
        rw [this, Nat.mod_mul_right_div_self]
      rw [e1]
      have : (2 : Nat) ^ (m - n) = 2 * 2 ^ (m - n - 1) := by
        rw [← Nat.pow_succ']; congr 1; omega
      rw [this, Nat.mod_mul_right_mod]
    simp only [rev, ih (by omega), e]
theorem rev_one (x n : Nat) : rev x (n + 1) = rev (x / 2) n + x % 2 * 2 ^ n := by
  induction n with
  | zero => simp [rev]
  | succ n ih =>
    have e : rev x (n + 2) = 2 * rev x (n + 1) + x / 2 ^ (n + 1) % 2 := rfl
    have e2 : rev (x / 2) (n + 1) = 2 * rev (x / 2) n + x / 2 / 2 ^ n % 2 := rfl
    have e3 : x / 2 / 2 ^ n = x / 2 ^ (n + 1) := by rw [Nat.div_div_eq_div_mul, Nat.pow_succ']
    rw [e, ih, e2, e3, Nat.pow_succ]
    simp only [Nat.mul_add]
    have : 2 * (x % 2 * 2 ^ n) = x % 2 * (2 ^ n * 2) := by
      rw [Nat.mul_left_comm, Nat.mul_comm 2]
    omega
theorem rev_rev (x n : Nat) : rev (rev x n) n = x % 2 ^ n := by
  induction n generalizing x with
  | zero => simp [rev]; omega
  | succ n ih =>
    have h := rev_lt (x / 2) n
    rw [rev_one x n]
    have e1 : rev (rev (x / 2) n + x % 2 * 2 ^ n) n = rev (rev (x / 2) n) n := by
      have : (rev (x / 2) n + x % 2 * 2 ^ n) % 2 ^ n = rev (x / 2) n := by
        rw [Nat.add_mul_mod_self_right, Nat.mod_eq_of_lt h]
      rw [← rev_mod _ n n (Nat.le_refl n), this]
    have e2 : (rev (x / 2) n + x % 2 * 2 ^ n) / 2 ^ n = x % 2 := by
      rw [Nat.add_mul_div_right _ _ (pow_pos2 n), Nat.div_eq_of_lt h]; omega
    simp only [rev, e1, e2, ih]
    rw [Nat.pow_succ', Nat.mod_mul]
    omega
end Go.Proofs.Ytahgeeklenojjaa
