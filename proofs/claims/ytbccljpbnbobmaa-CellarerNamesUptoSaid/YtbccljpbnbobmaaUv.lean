/- What it means to read a number of groups of seven bits at the front of a text; that there is but one. Conditions: none. -/
import Derived.Test.YtbccljpbnbobmaaVar
namespace Go.Proofs.Ytbccljpbnbobmaa
open Go.RowKit

/-- The number of groups, whatever their highest bits. -/
def v7 : List UInt8 → Nat
  | [] => 0
  | c :: r => c.toNat % 128 + 128 * v7 r

theorem v7_lt (l : List UInt8) : v7 l < 128 ^ l.length := by
  induction l with
  | nil => simp [v7]
  | cons c r ih => simp only [v7, List.length_cons, Nat.pow_succ]; omega

theorem v7_snoc (l : List UInt8) (c : UInt8) : v7 (l ++ [c]) = v7 l + 128 ^ l.length * (c.toNat % 128) := by
  induction l with
  | nil => simp [v7]
  | cons d r ih => simp only [List.cons_append, v7, ih, List.length_cons, Nat.pow_succ]; rw [Nat.mul_add, ← Nat.mul_assoc, Nat.mul_comm (128 ^ r.length) 128]; omega

/-- x is the number that stands at the front of l, in n bytes; 0, 0: there is none. -/
def UV (l : List UInt8) (x n : Nat) : Prop :=
  (x < 18446744073709551616 ∧ varL x <+: l ∧ n = (varL x).length) ∨ (x = 0 ∧ n = 0 ∧ ∀ y, y < 18446744073709551616 → ¬ varL y <+: l)

theorem ofNat_inj {a b : Nat} (ha : a < 256) (hb : b < 256) (h : UInt8.ofNat a = UInt8.ofNat b) : a = b := by
  have := congrArg UInt8.toNat h
  simp [UInt8.toNat_ofNat'] at this
  omega

theorem ofNat_eq {a : Nat} {c : UInt8} (ha : a < 256) (h : UInt8.ofNat a = c) : a = c.toNat := by
  have := congrArg UInt8.toNat h
  simp [UInt8.toNat_ofNat'] at this
  omega

theorem ofNat_toNat' (c : UInt8) {a : Nat} (h : a = c.toNat) : UInt8.ofNat a = c := by
  subst h; simp

theorem varL_cons_low (y : Nat) (c : UInt8) (r : List UInt8) (hc : c.toNat < 128) : varL y <+: c :: r ↔ y = c.toNat := by
  by_cases hy : y < 128
  · rw [varL_small y hy, List.cons_prefix_cons]
    constructor
    · intro h; exact ofNat_eq (by omega) h.1
    · intro h; exact ⟨ofNat_toNat' c h, List.nil_prefix⟩
  · rw [varL_big y hy, List.cons_prefix_cons]
    constructor
    · intro h
      have := ofNat_eq (by omega) h.1
      omega
    · intro h; omega

theorem varL_cons_high (y : Nat) (c : UInt8) (r : List UInt8) (hc : 128 ≤ c.toNat) : varL y <+: c :: r ↔ ∃ z, 0 < z ∧ y = c.toNat % 128 + 128 * z ∧ varL z <+: r := by
  have hc2 : c.toNat < 256 := c.toNat_lt
  by_cases hy : y < 128
  · rw [varL_small y hy, List.cons_prefix_cons]
    constructor
    · intro h
      have := ofNat_eq (by omega) h.1
      omega
    · rintro ⟨z, hz, h, _⟩; omega
  · rw [varL_big y hy, List.cons_prefix_cons]
    constructor
    · intro h
      have := ofNat_eq (by omega) h.1
      exact ⟨y / 128, by omega, by omega, h.2⟩
    · rintro ⟨z, hz, h, h2⟩
      have e : y / 128 = z := by omega
      rw [e]
      exact ⟨ofNat_toNat' c (by omega), h2⟩

/-- Behind k bytes whose highest bits are set. -/
theorem varL_at (l : List UInt8) (k : Nat) (hk : k ≤ l.length) (hh : ∀ j (hj : j < k), 128 ≤ (l[j]'(by omega)).toNat) (y : Nat) :
    varL y <+: l ↔ ∃ z, (0 < k → 0 < z) ∧ y = v7 (l.take k) + 128 ^ k * z ∧ varL z <+: l.drop k := by
  induction k generalizing l y with
  | zero => simp [v7]
  | succ k ih =>
    match l, hk with
    | c :: r, hk =>
      have h0 := hh 0 (by omega)
      have hr : ∀ j (hj : j < k), 128 ≤ (r[j]'(by simp at hk; omega)).toNat := fun j hj => by
        have := hh (j + 1) (by omega)
        simpa using this
      rw [varL_cons_high y c r (by simpa using h0)]
      constructor
      · rintro ⟨z, hz, rfl, h⟩
        obtain ⟨z', h1, rfl, h3⟩ := (ih r (by simpa using hk) hr z).1 h
        refine ⟨z', fun _ => ?_, ?_, by simpa using h3⟩
        · by_cases hk0 : 0 < k
          · exact h1 hk0
          · obtain rfl : k = 0 := by omega
            simp [v7] at hz
            omega
        · simp only [List.take_succ_cons, v7, Nat.pow_succ]
          rw [Nat.mul_add, Nat.mul_comm (128 ^ k) 128, Nat.mul_assoc]
          omega
      · rintro ⟨z, h1, rfl, h3⟩
        refine ⟨v7 (r.take k) + 128 ^ k * z, ?_, ?_, (ih r (by simpa using hk) hr _).2 ⟨z, fun _ => h1 (by omega), rfl, by simpa using h3⟩⟩
        · have : 0 < 128 ^ k * z := Nat.mul_pos (Nat.pow_pos (by decide)) (h1 (by omega))
          omega
        · simp only [List.take_succ_cons, v7, Nat.pow_succ]
          rw [Nat.mul_add, Nat.mul_comm (128 ^ k) 128, Nat.mul_assoc]
          omega

theorem varL_len_at (l : List UInt8) (k z : Nat) (hk : l.length = k) (hz : 0 < k → 0 < z) (hh : ∀ c ∈ l, 128 ≤ c.toNat) : (varL (v7 l + 128 ^ k * z)).length = k + (varL z).length := by
  induction l generalizing k with
  | nil => subst hk; simp [v7]
  | cons c r ih =>
    subst hk
    have hz' : 0 < z := hz (by simp)
    have hp : 0 < 128 ^ r.length * z := Nat.mul_pos (Nat.pow_pos (by decide)) hz'
    simp only [v7, List.length_cons, Nat.pow_succ]
    have e : c.toNat % 128 + 128 * v7 r + 128 ^ r.length * 128 * z = c.toNat % 128 + 128 * (v7 r + 128 ^ r.length * z) := by
      rw [Nat.mul_add, Nat.mul_comm (128 ^ r.length) 128, Nat.mul_assoc]; omega
    rw [e, varL_big _ (by omega)]
    have e2 : (c.toNat % 128 + 128 * (v7 r + 128 ^ r.length * z)) / 128 = v7 r + 128 ^ r.length * z := by omega
    rw [e2, List.length_cons, ih r.length rfl (fun _ => hz') (fun c hc => hh c (by simp [hc]))]
    omega

theorem varL_one (x y : Nat) (l : List UInt8) (hx : varL x <+: l) (hy : varL y <+: l) : x = y := by
  induction l generalizing x y with
  | nil => have := varL_pos x; rw [List.prefix_nil] at hx; rw [hx] at this; simp at this
  | cons c r ih =>
    by_cases hc : c.toNat < 128
    · rw [(varL_cons_low x c r hc).1 hx, (varL_cons_low y c r hc).1 hy]
    · obtain ⟨z, _, rfl, h⟩ := (varL_cons_high x c r (by omega)).1 hx
      obtain ⟨z', _, rfl, h'⟩ := (varL_cons_high y c r (by omega)).1 hy
      rw [ih z z' h h']

theorem UV.one {l : List UInt8} {x n y m : Nat} (h : UV l x n) (k : UV l y m) : x = y ∧ n = m := by
  rcases h with ⟨h1, h2, rfl⟩ | ⟨rfl, rfl, h⟩ <;> rcases k with ⟨k1, k2, rfl⟩ | ⟨rfl, rfl, k⟩
  · obtain rfl := varL_one x y l h2 k2
    exact ⟨rfl, rfl⟩
  · exact absurd h2 (k x h1)
  · exact absurd k2 (h y k1)
  · exact ⟨rfl, rfl⟩

theorem UV.of_front (x : Nat) (hx : x < 18446744073709551616) (s : List UInt8) : UV (varL x ++ s) x (varL x).length := .inl ⟨hx, List.prefix_append _ _, rfl⟩

/-- Of ten bytes and more only the first ten matter. -/
theorem UV.take {l : List UInt8} {x n : Nat} (k : Nat) (hk : 10 ≤ k) (h : UV (l.take k) x n) : UV l x n := by
  rcases h with ⟨h1, h2, rfl⟩ | ⟨rfl, rfl, h⟩
  · exact .inl ⟨h1, h2.trans (List.take_prefix _ _), rfl⟩
  · refine .inr ⟨rfl, rfl, fun y hy hp => h y hy ?_⟩
    have := varL_ten y hy
    exact List.prefix_take_iff.2 ⟨hp, by omega⟩
end Go.Proofs.Ytbccljpbnbobmaa
