/- The document's Crc32 and Entry. Conditions: the text has at most 4000 bytes. -/
import Derived.Test.YtbccljpbnbobmaaCrc
namespace Go.Proofs.Ytbccljpbnbobmaa
open Go.RowKit
set_option maxRecDepth 100000

theorem half_lt (x : Nat) (hx : x < 4294967296) : half x < 4294967296 := by
  unfold half
  split
  · exact Nat.xor_lt_two_pow (n := 32) (by omega) (by omega)
  · omega

def halves : Nat → Nat → Nat
  | 0, x => x
  | k + 1, x => half (halves k x)
theorem halves_lt (k x : Nat) (hx : x < 4294967296) : halves k x < 4294967296 := by
  induction k with
  | zero => exact hx
  | succ k ih => exact half_lt _ ih
theorem half_odd (x : Nat) (hx : x < 4294967296) (h : x % 2 = 1) : bits .xor .u32 ((x : Int) / 2) 3988292384 = ((half x : Nat) : Int) := by
  unfold half
  rw [if_pos h]
  exact u32_xor_nat (x / 2) 3988292384 (by omega) (by omega)
theorem half_even (x : Nat) (h : ¬ x % 2 = 1) : half x = x / 2 := by
  unfold half
  rw [if_neg h]

theorem entry_any (b : Nat) (hb : b < 256) (w : World) :
    Calls Try.prog 19 #[.int .i64 (b : Int)] w fun e w' => e = .returned (.int .u32 (ent b : Int)) ∧ w = w' := by
  go_enter Try.func19, Try.ntmps19
  go_wp2
  go_loop [3, 4, 5] (fun c i _ => ∃ k : Nat, k ≤ 8 ∧ i = .int .i64 (k : Int) ∧ c = .int .u32 (halves k b : Int))
    (fun _ i _ => 8 - (intOf i).toNat)
  case atStart => exact ⟨0, by omega, rfl, rfl⟩
  case round =>
    obtain ⟨k, hk, rfl, rfl⟩ := hrel
    have hl := halves_lt k b (by omega)
    have Hs : Hid (halves (k + 1) b = half (halves k b)) := rfl
    by_cases hlt : k < 8
    · generalize halves k b = x at *
      by_cases ho : x % 2 = 1
      · have hx := half_odd x hl ho
        have hob : (((x : Int) % 2) == 1) = true := by simp; omega
        clear ho
        go_wp2
        go_round
        case rel => exact ⟨k + 1, by omega, by go_num, by rw [Hs.out]⟩
        case measure => simp [intOf]; omega
      · have Hx := Lib.hid (half_even x ho)
        have hob : (((x : Int) % 2) == 1) = false := by simp; omega
        clear ho
        go_wp2
        go_round
        case rel => exact ⟨k + 1, by omega, by go_num, by rw [Hs.out, Hx.out]; rfl⟩
        case measure => simp [intOf]; omega
    · obtain rfl : k = 8 := by omega
      go_wp2
      go_ret
      exact ⟨rfl, rfl⟩

/-- The bits of a text, the lowest of each byte first. -/
def dbit (l : List UInt8) (i : Nat) : Bool := (l.getD (i / 8) 0).toNat / 2 ^ (i % 8) % 2 == 1
/-- What the register holds when i bits have been taken. -/
def reg (l : List UInt8) : Nat → Nat
  | 0 => 4294967295
  | i + 1 => half (reg l i ^^^ (dbit l i).toNat)
/-- The polynomial, bit by bit, the highest first. -/
def pb (k : Nat) : Bool := 4374732215 / 2 ^ (32 - k) % 2 == 1

/-- The row as it is first laid, up to k. -/
def first (l : List UInt8) (k j : Nat) : Bool := if j < k then dbit l j ^^ decide (j < 32) else false

def bcell (f : Nat → Bool) (i : Nat) : Value := .bool (f i)

theorem dbit_go (s : ByteArray) (k : Nat) (h : k / 8 < s.size) : (((s[k / 8].toNat : Int) / 2 ^ (k % 8)).tmod 2 == 1) = dbit s.data.toList k := by
  unfold dbit
  have e : s.data.toList.getD (k / 8) 0 = s[k / 8] := by
    rw [List.getD_eq_getElem?_getD, List.getElem?_eq_getElem (by simpa using h)]
    rfl
  rw [e]
  have e2 : ((s[k / 8].toNat : Int) / 2 ^ (k % 8)) = ((s[k / 8].toNat / 2 ^ (k % 8) : Nat) : Int) := by simp
  rw [e2]
  have e3 : (((s[k / 8].toNat / 2 ^ (k % 8) : Nat) : Int)).tmod 2 = ((s[k / 8].toNat / 2 ^ (k % 8) % 2 : Nat) : Int) := rfl
  rw [e3, Bool.eq_iff_iff]
  simp only [beq_iff_eq]
  omega
theorem dbit_out (l : List UInt8) (k : Nat) (h : l.length ≤ k / 8) : dbit l k = false := by
  unfold dbit
  rw [List.getD_eq_getElem?_getD, List.getElem?_eq_none h]
  simp
theorem first_set (l : List UInt8) (k : Nat) (b : Bool) (hb : b = (dbit l k ^^ decide (k < 32))) : (fun i => if i = k then .bool b else bcell (first l k) i) = bcell (first l (k + 1)) := by
  funext i
  unfold bcell first
  by_cases h : i = k
  · subst h; rw [if_pos rfl, if_pos (by omega), hb]
  · rw [if_neg h]
    by_cases h2 : i < k
    · rw [if_pos h2, if_pos (by omega)]
    · rw [if_neg h2, if_neg (by omega)]
theorem first_set2 (l : List UInt8) (k : Nat) (b c : Bool) (hb : b = (dbit l k ^^ decide (k < 32))) : (fun i => if i = k then .bool b else if i = k then .bool c else bcell (first l k) i) = bcell (first l (k + 1)) := by
  rw [← first_set l k b hb]
  funext i
  by_cases h : i = k
  · rw [if_pos h, if_pos h]
  · rw [if_neg h, if_neg h, if_neg h]
theorem data_length (s : ByteArray) : s.data.toList.length = s.size := by simp

/-- What the row holds from place i on, when i bits have been taken. -/
def RowAt (l : List UInt8) (n i : Nat) (f : Nat → Bool) : Prop := ∀ j, i ≤ j → j < n → f j = ((reg l i).testBit (j - i) ^^ dbit l j)
/-- The row with the polynomial's first k bits turned in at i. -/
def turnIn (f : Nat → Bool) (i k j : Nat) : Bool := f j ^^ (decide (i ≤ j) && decide (j < i + k) && pb (j - i))

theorem testBit_ones (j : Nat) : (4294967295 : Nat).testBit j = decide (j < 32) := by
  have h1 : (4294967295 : Nat) = 2 ^ 32 - 1 := by decide
  rw [h1, Nat.testBit_two_pow_sub_one]

theorem rowAt_first (l : List UInt8) (n : Nat) : RowAt l n 0 (first l n) := by
  intro j _ hj
  unfold first reg
  rw [if_pos hj, Nat.sub_zero, testBit_ones, Bool.xor_comm]

theorem pb_poly : ∀ j, j < 32 → pb (j + 1) = (0xedb88320 : Nat).testBit j := by decide +kernel
theorem poly_out (j : Nat) (h : 32 ≤ j) : (0xedb88320 : Nat).testBit j = false :=
  Nat.testBit_lt_two_pow (Nat.lt_of_lt_of_le (show (0xedb88320 : Nat) < 2 ^ 32 by decide) (Nat.pow_le_pow_right (by decide) h))

theorem reg_succ_bit (l : List UInt8) (i j : Nat) : (reg l (i + 1)).testBit j = ((reg l i).testBit (j + 1) ^^ (((reg l i).testBit 0 ^^ dbit l i) && (0xedb88320 : Nat).testBit j)) := by
  have h2 : (reg l i ^^^ (dbit l i).toNat) / 2 = reg l i / 2 := by
    apply Nat.eq_of_testBit_eq
    intro m
    rw [Nat.testBit_div_two, Nat.testBit_div_two, Nat.testBit_xor]
    cases dbit l i
    · simp
    · have : (1 : Nat).testBit (m + 1) = false := by rw [Nat.testBit_succ]; simp
      simp [this]
  have h3 : ((reg l i ^^^ (dbit l i).toNat) % 2 = 1) ↔ ((reg l i).testBit 0 ^^ dbit l i) = true := by
    have : (reg l i ^^^ (dbit l i).toNat).testBit 0 = ((reg l i).testBit 0 ^^ dbit l i) := by
      rw [Nat.testBit_xor]
      cases dbit l i <;> simp
    rw [← this, Nat.testBit_zero]
    simp
  show (half (reg l i ^^^ (dbit l i).toNat)).testBit j = _
  unfold half
  rw [h2]
  by_cases h : ((reg l i).testBit 0 ^^ dbit l i) = true
  · rw [if_pos (h3.2 h), Nat.testBit_xor, Nat.testBit_div_two, h]
    simp
  · rw [if_neg (fun h4 => h (h3.1 h4)), Nat.testBit_div_two]
    simp only [Bool.not_eq_true] at h
    rw [h]
    simp

theorem RowAt.skip {l : List UInt8} {n i : Nat} {f : Nat → Bool} (h : RowAt l n i f) (hi : i < n) (hf : f i = false) : RowAt l n (i + 1) f := by
  intro j hj hn
  have h0 := h i (Nat.le_refl _) hi
  rw [hf, Nat.sub_self] at h0
  rw [h j (by omega) hn, reg_succ_bit, ← h0]
  have : j - (i + 1) + 1 = j - i := by omega
  rw [this]
  simp

theorem RowAt.flip {l : List UInt8} {n i : Nat} {f : Nat → Bool} (h : RowAt l n i f) (hi : i < n) (hf : f i = true) : RowAt l n (i + 1) (turnIn f i 33) := by
  intro j hj hn
  have h0 := h i (Nat.le_refl _) hi
  rw [hf, Nat.sub_self] at h0
  unfold turnIn
  rw [h j (by omega) hn, reg_succ_bit, ← h0]
  have e : j - (i + 1) + 1 = j - i := by omega
  rw [e]
  by_cases h33 : j < i + 33
  · have e2 : j - i = j - (i + 1) + 1 := by omega
    have e3 : pb (j - i) = (0xedb88320 : Nat).testBit (j - (i + 1)) := by rw [e2]; exact pb_poly _ (by omega)
    rw [e3]
    cases (reg l i).testBit (j - i) <;> cases dbit l j <;> simp [h33, show i ≤ j by omega]
  · rw [poly_out _ (by omega)]
    simp [h33]

theorem turnIn_zero (f : Nat → Bool) (i : Nat) : turnIn f i 0 = f := by
  funext j
  unfold turnIn
  have : (decide (i ≤ j) && decide (j < i + 0)) = false := by
    by_cases h : i ≤ j
    · simp [h]
    · simp [h]
  rw [this]
  simp
theorem turnIn_skip (f : Nat → Bool) (i k : Nat) (h : pb k = false) : turnIn f i (k + 1) = turnIn f i k := by
  funext j
  unfold turnIn
  by_cases e : j = i + k
  · subst e
    rw [Nat.add_sub_cancel_left, h]
    simp
  · have : decide (j < i + (k + 1)) = decide (j < i + k) := by
      rw [decide_eq_decide]; omega
    rw [this]
theorem turnIn_turn (f : Nat → Bool) (i k : Nat) (h : pb k = true) : (fun j => if j = i + k then .bool (!turnIn f i k (i + k)) else bcell (turnIn f i k) j) = bcell (turnIn f i (k + 1)) := by
  funext j
  unfold bcell turnIn
  by_cases e : j = i + k
  · subst e
    rw [if_pos rfl, Nat.add_sub_cancel_left, h]
    simp
  · rw [if_neg e]
    have : decide (j < i + (k + 1)) = decide (j < i + k) := by
      rw [decide_eq_decide]; omega
    rw [this]

theorem pb_go : ∀ c : Nat, c < 33 → (bits .and .i64 ((4374732215 : Int) / 2 ^ (32 - c)) 1 == 1) = pb c := by decide +kernel

/-- The number of bits, the lowest first. -/
def gat (g : Nat → Bool) : Nat → Nat
  | 0 => 0
  | k + 1 => gat g k + if g k then 2 ^ k else 0
theorem gat_lt (g : Nat → Bool) (k : Nat) : gat g k < 2 ^ k := by
  induction k with
  | zero => exact Nat.zero_lt_one
  | succ k ih =>
    simp only [gat, Nat.pow_succ]
    split <;> omega
theorem gat_bit (g : Nat → Bool) (k m : Nat) : (gat g k).testBit m = (decide (m < k) && g m) := by
  induction k with
  | zero => simp [gat]
  | succ k ih =>
    simp only [gat]
    have hl := gat_lt g k
    by_cases hg : g k = true
    · rw [if_pos hg]
      have h1 := Nat.two_pow_add_eq_or_of_lt hl 1
      rw [Nat.mul_one] at h1
      rw [Nat.add_comm, h1, Nat.testBit_or, ih, Nat.testBit_two_pow]
      by_cases e : k = m
      · subst e; simp [hg]
      · by_cases h2 : m < k
        · simp [h2, show m < k + 1 by omega, e]
        · simp [h2, show ¬ m < k + 1 by omega, e]
    · rw [if_neg hg, Nat.add_zero, ih]
      by_cases e : k = m
      · subst e; simp [hg]
      · by_cases h2 : m < k
        · simp [h2, show m < k + 1 by omega]
        · simp [h2, show ¬ m < k + 1 by omega]
theorem gat_not (g : Nat → Bool) (x : Nat) (hx : x < 4294967296) (h : ∀ m, m < 32 → g m = !x.testBit m) : gat g 32 = 4294967295 - x := by
  rw [← not_nat x hx]
  apply Nat.eq_of_testBit_eq
  intro m
  rw [gat_bit, Nat.testBit_xor, testBit_ones]
  by_cases hm : m < 32
  · simp [hm, h m hm]
  · have : x.testBit m = false := Nat.testBit_lt_two_pow (Nat.lt_of_lt_of_le (show x < 2 ^ 32 by omega) (Nat.pow_le_pow_right (by decide) (by omega)))
    simp [hm, this]
theorem gat_add (x j : Nat) (hx : x < 2 ^ j) (hj : j < 32) : ((x : Int) + 2 ^ j % 4294967296) % 4294967296 = ((x + 2 ^ j : Nat) : Int) := by
  have h1 : 2 ^ (j + 1) ≤ 2 ^ 32 := Nat.pow_le_pow_right (by decide) (by omega)
  rw [Nat.pow_succ] at h1
  have h2 : (2 : Nat) ^ 32 = 4294967296 := by decide
  have h3 : ((2 : Int) ^ j) = ((2 ^ j : Nat) : Int) := by simp
  rw [h3]
  generalize 2 ^ j = p at *
  omega

theorem half_xor (x y : Nat) : half (x ^^^ 2 * y) = half x ^^^ y := by
  have e0 : ∀ z : Nat, (2 * y).testBit (z + 1) = y.testBit z := fun z => by
    rw [Nat.testBit_succ]; congr 1; omega
  have e1 : (x ^^^ 2 * y) / 2 = x / 2 ^^^ y := by
    apply Nat.eq_of_testBit_eq
    intro m
    rw [Nat.testBit_div_two, Nat.testBit_xor, Nat.testBit_xor, Nat.testBit_div_two, e0]
  have e2 : (x ^^^ 2 * y) % 2 = x % 2 := by
    have h1 : (x ^^^ 2 * y).testBit 0 = x.testBit 0 := by
      rw [Nat.testBit_xor]
      have : (2 * y).testBit 0 = false := by simp
      rw [this, Bool.xor_false]
    rw [Nat.testBit_zero, Nat.testBit_zero, decide_eq_decide] at h1
    omega
  unfold half
  rw [e1, e2]
  split
  · rw [Nat.xor_assoc, Nat.xor_assoc, Nat.xor_comm y]
  · rfl
theorem halves_xor (k x y : Nat) : halves k (x ^^^ 2 ^ k * y) = halves k x ^^^ y := by
  induction k generalizing y with
  | zero => simp [halves]
  | succ k ih =>
    have e : 2 ^ (k + 1) * y = 2 ^ k * (2 * y) := by rw [Nat.pow_succ, Nat.mul_assoc]
    rw [e]
    show half (halves k _) = half (halves k x) ^^^ y
    rw [ih, half_xor]
theorem byte_bits (b t : Nat) : (b / 2 ^ t) ^^^ (b / 2 ^ t % 2 == 1).toNat = 2 * (b / 2 ^ (t + 1)) := by
  have h : b / 2 ^ (t + 1) = b / 2 ^ t / 2 := by rw [Nat.pow_succ, Nat.div_div_eq_div_mul]
  rw [h]
  generalize b / 2 ^ t = q
  apply Nat.eq_of_testBit_eq
  intro m
  rcases m with _ | m
  · rw [Nat.testBit_xor]
    have h1 : q.testBit 0 = (q % 2 == 1) := by rw [Nat.testBit_zero]; rfl
    have h2 : (2 * (q / 2)).testBit 0 = false := by simp
    rw [h1, h2]
    cases (q % 2 == 1) <;> simp
  · rw [Nat.testBit_xor]
    have h3 : (q % 2 == 1).toNat.testBit (m + 1) = false := by
      cases (q % 2 == 1)
      · simp
      · rw [Nat.testBit_succ]; simp
    have e0 : (2 * (q / 2)).testBit (m + 1) = (q / 2).testBit m := by
      rw [Nat.testBit_succ]; congr 1; omega
    rw [h3, e0, Nat.testBit_div_two, Bool.xor_false]
theorem reg_part (l : List UInt8) (m t : Nat) (ht : t ≤ 8) (b : Nat) (hb : b = (l.getD m 0).toNat) : reg l (8 * m + t) = halves t (reg l (8 * m) ^^^ b) ^^^ b / 2 ^ t := by
  induction t with
  | zero => simp [halves, Nat.xor_assoc]
  | succ t ih =>
    have hd : dbit l (8 * m + t) = (b / 2 ^ t % 2 == 1) := by
      unfold dbit
      have e1 : (8 * m + t) / 8 = m := by omega
      have e2 : (8 * m + t) % 8 = t := by omega
      rw [e1, e2, hb]
    show half (reg l (8 * m + t) ^^^ (dbit l (8 * m + t)).toNat) = half (halves t _) ^^^ _
    rw [ih (by omega), hd, Nat.xor_assoc, byte_bits, half_xor]
theorem crcStep_eq (C : Nat) (b : UInt8) : crcStep C b = halves 8 (C ^^^ b.toNat) := by
  have hC : C ^^^ b.toNat = (C % 256 ^^^ b.toNat) ^^^ 2 ^ 8 * (C / 256) := by
    have h1 : C = (2 ^ 8 * (C / 256)) ^^^ (C % 256) := by
      have h3 : C % 256 < 2 ^ 8 := by omega
      have h2 := Nat.two_pow_add_eq_or_of_lt h3 (C / 256)
      have h4 : 2 ^ 8 * (C / 256) ||| (C % 256) = 2 ^ 8 * (C / 256) ^^^ (C % 256) := by
        apply Nat.eq_of_testBit_eq
        intro j
        rw [Nat.testBit_or, Nat.testBit_xor, Nat.testBit_two_pow_mul]
        by_cases hj : 8 ≤ j
        · have : (C % 256).testBit j = false := Nat.testBit_lt_two_pow (Nat.lt_of_lt_of_le h3 (Nat.pow_le_pow_right (by decide) hj))
          simp [this]
        · simp [hj]
      rw [← h4, ← h2]
      omega
    have h5 : C ^^^ b.toNat = ((2 ^ 8 * (C / 256)) ^^^ (C % 256)) ^^^ b.toNat := by rw [← h1]
    rw [h5, Nat.xor_assoc, Nat.xor_comm]
  rw [hC, halves_xor]
  rfl
theorem reg_byte (l : List UInt8) (m : Nat) (hm : m < l.length) : reg l (8 * (m + 1)) = crcStep (reg l (8 * m)) l[m] := by
  have hb : l.getD m 0 = l[m] := by rw [List.getD_eq_getElem?_getD, List.getElem?_eq_getElem hm]; rfl
  have h := reg_part l m 8 (Nat.le_refl _) l[m].toNat (by rw [hb])
  have h0 : l[m].toNat / 2 ^ 8 = 0 := by have := l[m].toNat_lt; omega
  rw [h0, Nat.xor_zero] at h
  have e : 8 * (m + 1) = 8 * m + 8 := by omega
  rw [e, h]
  exact (crcStep_eq _ _).symm
theorem reg_lt (l : List UInt8) (i : Nat) : reg l i < 4294967296 := by
  induction i with
  | zero => exact (by decide : (4294967295 : Nat) < 4294967296)
  | succ i ih =>
    refine half_lt _ (Nat.xor_lt_two_pow (n := 32) ih ?_)
    cases dbit l i <;> decide
theorem reg_all (l : List UInt8) : reg l (8 * l.length) = crcL 4294967295 l := by
  have h : ∀ m, m ≤ l.length → reg l (8 * m) = crcL 4294967295 (l.take m) := by
    intro m
    induction m with
    | zero => intro _; rfl
    | succ m ih => intro hm; rw [reg_byte l m (by omega), crcL_take_succ _ _ _ (by omega), ih (by omega)]
  rw [h _ (Nat.le_refl _), List.take_length]
theorem ref_end (l : List UInt8) (n : Nat) (f : Nat → Bool) (h : RowAt l n (8 * l.length) f) (hn : 8 * l.length + 31 < n) : gat (fun m => !f (8 * l.length + m)) 32 = crcOf 0 l := by
  have hr := reg_lt l (8 * l.length)
  unfold crcOf
  rw [Nat.sub_zero, ← reg_all]
  refine gat_not _ _ hr fun m hm => ?_
  rw [h (8 * l.length + m) (by omega) (by omega), Nat.add_sub_cancel_left, dbit_out l _ (by omega), Bool.xor_false]

theorem info_bool : (Try.prog.info? 4).map (fun i => (i.zero, i.size, i.bytes)) = some (some (.bool false), 1, 1) := by kernel_rfl

set_option maxHeartbeats 2000000 in
theorem refCrc_any (s : ByteArray) (w : World) (hs : s.size ≤ 4000) :
    Calls Try.prog 16 #[.string s] w fun e w' => e = .returned (.int .u32 (crcOf 0 s.data.toList : Int)) ∧ Below w.heap.size w w' := by
  obtain ⟨n, hn⟩ : ∃ n, n = 8 * s.size + 32 := ⟨_, rfl⟩
  have hnI : 8 * (s.size : Int) + 32 = (n : Int) := by omega
  have hmk := run_make_f Try.underlying51 info_bool rfl n _ rfl (by omega) (by omega)
  have Hn := Lib.hid hn
  have hn1 : n ≤ 32032 := by omega
  clear hn
  go_enter Try.func16, Try.ntmps16
  go_wp2_with fail
  go_loopw [4, 16] (fun _ i wr => ∃ k : Nat, k ≤ n ∧ i = .int .i64 (k : Int) ∧ Blk wr w.heap.size 4 (fcells n (bcell (first s.data.toList k))) ∧ Below w.heap.size w wr)
    (fun _ i _ => n - (intOf i).toNat)
  case atStart => exact ⟨0, by omega, rfl, Blk.new _ _ _, (Below.refl _ _).alloc (Nat.le_refl _) _⟩
  case round =>
    clear hmk
    obtain ⟨k, hk, rfl, hB, hb⟩ := hrel
    have hb0 := hb
    by_cases hlt : k < n
    · have hf := hB.frozen k
      have hc := hB.cell k
      rw [fcells_at _ _ _ hlt] at hc
      by_cases h8 : k < 8 * s.size
      · have h8' : k / 8 < s.size := by omega
        have hd := dbit_go s k h8'
        have H1 := fun v => hB.set_ k v
        have hb1 := fun v => hb.setCell (p := ⟨w.heap.size, k, none⟩) (Nat.le_refl _) v
        by_cases h32 : k < 32
        · have H2 := fun u v => (H1 u).set_ k v
          have hb2 := fun u v => (hb1 u).setCell (p := ⟨w.heap.size, k, none⟩) (Nat.le_refl _) v
          go_wp2_with fail
          go_roundw
          case rel =>
            refine ⟨k + 1, by omega, by go_num, ?_, hb2 _ _⟩
            rw [← first_set2 s.data.toList k (!dbit s.data.toList k) (dbit s.data.toList k) (by simp [h32]), ← fcells_set, ← fcells_set]
            exact H2 _ _
          case measure => simp [intOf]; omega
        · go_wp2_with fail
          go_roundw
          case rel =>
            refine ⟨k + 1, by omega, by go_num, ?_, hb1 _⟩
            rw [← first_set s.data.toList k (dbit s.data.toList k) (by simp [h32]), ← fcells_set]
            exact H1 _
          case measure => simp [intOf]; omega
      · have Hd := Lib.hid (dbit_out s.data.toList k (by rw [data_length]; omega))
        have H1 := fun v => hB.set_ k v
        have hb1 := fun v => hb.setCell (p := ⟨w.heap.size, k, none⟩) (Nat.le_refl _) v
        by_cases h32 : k < 32
        · have H2 := fun u v => (H1 u).set_ k v
          have hb2 := fun u v => (hb1 u).setCell (p := ⟨w.heap.size, k, none⟩) (Nat.le_refl _) v
          go_wp2_with fail
          go_roundw
          case rel =>
            refine ⟨k + 1, by omega, by go_num, ?_, hb2 _ _⟩
            rw [← first_set2 s.data.toList k true false (by simp [h32, Hd.out]), ← fcells_set, ← fcells_set]
            exact H2 _ _
          case measure => simp [intOf]; omega
        · go_wp2_with fail
          go_roundw
          case rel =>
            refine ⟨k + 1, by omega, by go_num, ?_, hb1 _⟩
            rw [← first_set s.data.toList k false (by simp [h32, Hd.out]), ← fcells_set]
            exact H1 _
          case measure => simp [intOf]; omega
    · obtain rfl : k = n := by omega
      go_wp2_with fail
      clear hb
      go_loopw [5, 6] (fun i _ wr => ∃ (i' : Nat) (f : Nat → Bool), i' ≤ 8 * s.size ∧ i = .int .i64 (i' : Int) ∧ RowAt s.data.toList k i' f ∧ Blk wr w.heap.size 4 (fcells k (bcell f)) ∧ Below w.heap.size w wr)
        (fun i _ _ => 8 * s.size - (intOf i).toNat)
      case atStart => exact ⟨0, first s.data.toList k, by omega, rfl, rowAt_first _ _, hB, hb0⟩
      case round =>
        clear hB hb0
        obtain ⟨i, f, hi, rfl, hrow, hB, hb⟩ := hrel
        have Hrow := Lib.hid hrow
        clear hrow
        by_cases hlt2 : i < 8 * s.size
        · have hc := hB.cell i
          rw [fcells_at _ _ _ (by omega)] at hc
          unfold bcell at hc
          cases hfi : f i
          · rw [hfi] at hc
            have Hs := Lib.hid (RowAt.skip Hrow.out (by omega) hfi)
            clear hfi
            go_wp2_with fail
            go_roundw
            case rel => exact ⟨i + 1, f, by omega, by go_num, Hs.out, hB, hb⟩
            case measure => simp [intOf]; omega
          · rw [hfi] at hc
            have Hs := Lib.hid (RowAt.flip Hrow.out (by omega) hfi)
            clear hfi
            obtain ⟨wo, rfl⟩ : ∃ wo : World, wo = wr := ⟨_, rfl⟩
            have hsz : 8 * s.size + 32 = k := Hn.out.symm
            have hik : i + 32 < k := by omega
            clear hsz
            go_wp2_with fail
            clear hc
            go_loopw [6] (fun c wr => ∃ c' : Nat, c' ≤ 33 ∧ c = .int .i64 (c' : Int) ∧ Blk wr w.heap.size 4 (fcells k (bcell (turnIn f i c'))) ∧ Below w.heap.size w wr)
              (fun c _ => 33 - (intOf c).toNat)
            case atStart => exact ⟨0, by omega, rfl, by rw [turnIn_zero]; exact hB, hb⟩
            case round =>
              clear hB hb
              obtain ⟨c, hc33, rfl, hB, hb⟩ := hrel
              by_cases hlt3 : c < 33
              · have hf := hB.frozen (i + c)
                have hc := hB.cell (i + c)
                rw [fcells_at _ _ _ (by omega)] at hc
                unfold bcell at hc
                have hpg := pb_go c hlt3
                cases hpb : pb c
                · rw [hpb] at hpg
                  have Hp := Lib.hid hpb
                  clear hpb
                  go_wp2_with fail
                  go_roundw
                  case rel => exact ⟨c + 1, by omega, by go_num, by rw [turnIn_skip _ _ _ Hp.out]; exact hB, hb⟩
                  case measure => simp [intOf]; omega
                · rw [hpb] at hpg
                  have Hp := Lib.hid hpb
                  have H1 := hB.set_ (i + c) (.bool (!turnIn f i c (i + c)))
                  have hb1 := hb.setCell (p := ⟨w.heap.size, i + c, none⟩) (Nat.le_refl _) (.bool (!turnIn f i c (i + c)))
                  clear hpb
                  go_wp2_with fail
                  go_roundw
                  case rel =>
                    refine ⟨c + 1, by omega, by go_num, ?_, hb1⟩
                    rw [← turnIn_turn _ _ _ Hp.out, ← fcells_set]
                    exact H1
                  case measure => simp [intOf]; omega
              · obtain rfl : c = 33 := by omega
                go_wp2_with fail
                go_roundw
                case rel => exact ⟨i + 1, _, by omega, by go_num, Hs.out, hB, hb⟩
                case measure => simp [intOf]; omega
        · obtain rfl : i = 8 * s.size := by omega
          have hsz : 8 * s.size + 32 = k := Hn.out.symm
          have hik : 8 * s.size + 31 < k := by omega
          clear hsz
          go_wp2_with fail
          go_loop [7, 8] (fun x i => ∃ j : Nat, j ≤ 32 ∧ i = .int .i64 (j : Int) ∧ x = .int .u32 (gat (fun m => !f (8 * s.size + m)) j : Int))
            (fun _ i => 32 - (intOf i).toNat)
          case atStart => exact ⟨0, by omega, rfl, rfl⟩
          case round =>
            obtain ⟨j, hj, rfl, rfl⟩ := hrel
            have hg := gat_lt (fun m => !f (8 * s.size + m)) j
            have Hg : Hid (gat (fun m => !f (8 * s.size + m)) (j + 1) = gat (fun m => !f (8 * s.size + m)) j + if !f (8 * s.size + j) then 2 ^ j else 0) := rfl
            by_cases hlt4 : j < 32
            · have hc := hB.cell (8 * s.size + j)
              rw [fcells_at _ _ _ (by omega)] at hc
              unfold bcell at hc
              generalize gat (fun m => !f (8 * s.size + m)) j = x at *
              cases hfj : f (8 * s.size + j)
              · rw [hfj] at hc Hg
                clear hfj
                go_wp2_with fail
                go_round
                case rel => exact ⟨j + 1, by omega, by go_num, by rw [Hg.out, gat_add x j hg hlt4]; simp⟩
                case measure => simp [intOf]; omega
              · rw [hfj] at hc Hg
                clear hfj
                go_wp2_with fail
                go_round
                case rel => exact ⟨j + 1, by omega, by go_num, by rw [Hg.out]; simp⟩
                case measure => simp [intOf]; omega
            · obtain rfl : j = 32 := by omega
              have He := Lib.hid (ref_end s.data.toList k f (by rw [data_length]; exact Hrow.out) (by rw [data_length]; exact hik))
              rw [data_length] at He
              go_wp2_with fail
              go_ret
              exact ⟨by rw [He.out]; rfl, hb⟩
end Go.Proofs.Ytbccljpbnbobmaa
