/- Repeats in a text, plain. Conditions: none. -/
import Derived.Test.YtjnglahjngiofaaTok
import Derived.Maps.RangeWalk
namespace Go.Proofs.Ytjnglahjngiofaa
open Go.RowKit

/-- Byte i. -/
def byt (s : ByteArray) (i : Nat) : UInt8 := s.data.toList.getD i 0
/-- Three bytes, as a key. -/
def k3 (s : ByteArray) (i : Nat) : List UInt8 := (s.extract i (i + 3)).data.toList
/-- The last place ahead of q that begins as place i does. -/
def lastP (s : ByteArray) (i : Nat) : Nat → Option Nat
  | 0 => none
  | q + 1 => if q + 3 ≤ s.size ∧ k3 s q = k3 s i then some q else lastP s i q
theorem lastP_lt (s : ByteArray) (i q j : Nat) (h : lastP s i q = some j) : j < q ∧ j + 3 ≤ s.size := by
  induction q with
  | zero => cases h
  | succ q ih =>
    unfold lastP at h
    split at h
    · rename_i hc
      cases h
      exact ⟨by omega, hc.1⟩
    · obtain ⟨h1, h2⟩ := ih h
      exact ⟨by omega, h2⟩
/-- The map of last places. -/
def dm (s : ByteArray) : Nat → DataW Unit
  | 0 => .map []
  | q + 1 => if q + 3 ≤ s.size then (dm s q).put (.string (k3 s q)) (.lit (.int .i64 (q : Int))) else dm s q
theorem dm_map (s : ByteArray) (q : Nat) : Maps.IsMap (dm s q) := by
  induction q with
  | zero => exact ⟨_, rfl⟩
  | succ q ih =>
    unfold dm
    split
    · exact ih.put _ _
    · exact ih
theorem dm_has (s : ByteArray) (i q : Nat) : Maps.has (dm s q) (.string (k3 s i)) = (lastP s i q).isSome := by
  induction q with
  | zero => rfl
  | succ q ih =>
    unfold dm lastP
    by_cases h1 : q + 3 ≤ s.size
    · rw [if_pos h1]
      by_cases h2 : k3 s q = k3 s i
      · rw [if_pos ⟨h1, h2⟩, h2, Maps.has_put_same (dm_map s q) (show Go.WideAt.IsKeyLit (.string _) from True.intro)]
        rfl
      · rw [if_neg (fun h => h2 h.2), Maps.has_put_other (fun e => h2 (by injection e with e; exact e.symm)), ih]
    · rw [if_neg h1, if_neg (fun h => h1 h.1), ih]
theorem dm_at (s : ByteArray) (i q j : Nat) (h : lastP s i q = some j) (z : DataW Unit) : (dm s q).atKey (.string (k3 s i)) z = .lit (.int .i64 (j : Int)) := by
  induction q with
  | zero => cases h
  | succ q ih =>
    unfold lastP at h
    unfold dm
    by_cases h1 : q + 3 ≤ s.size
    · rw [if_pos h1]
      by_cases h2 : k3 s q = k3 s i
      · rw [if_pos ⟨h1, h2⟩] at h
        obtain rfl : q = j := by injection h
        rw [h2, Maps.atKey_put_same (dm_map s q) (show Go.WideAt.IsKeyLit (.string _) from True.intro)]
      · rw [if_neg (fun h => h2 h.2)] at h
        rw [Maps.atKey_put_other (fun e => h2 (by injection e with e; exact e.symm)), ih h]
    · rw [if_neg (fun h => h1 h.1)] at h
      rw [if_neg h1, ih h]
def atI : Option Nat → Int
  | some t => (t : Int)
  | none => -1
/-- The place ahead. -/
def pvc (s : ByteArray) (q j : Nat) : Value := .int .i64 (if j < q ∧ j + 3 ≤ s.size then atI (lastP s j j) else 0)
/-- How many bytes are alike. -/
def mlen (s : ByteArray) (a i : Nat) : Nat → Nat → Nat
  | m, 0 => m
  | m, f + 1 => if i + m < s.size ∧ byt s (a + m) = byt s (i + m) then mlen s a i (m + 1) f else m
theorem mlen_ok (s : ByteArray) (a i : Nat) (f : Nat) : ∀ m, (∀ j, j < m → i + j < s.size ∧ byt s (a + j) = byt s (i + j)) → (∀ j, j < mlen s a i m f → i + j < s.size ∧ byt s (a + j) = byt s (i + j)) ∧ mlen s a i m f ≤ m + f := by
  induction f with
  | zero => exact fun m h => ⟨h, Nat.le_refl _⟩
  | succ f ih =>
    intro m h
    unfold mlen
    split
    · rename_i hc
      obtain ⟨h1, h2⟩ := ih (m + 1) fun j hj => by
        by_cases e : j = m
        · subst e; exact hc
        · exact h j (by omega)
      exact ⟨h1, by omega⟩
    · exact ⟨h, by omega⟩
/-- The chain of places. -/
def loopF (s : ByteArray) (i : Nat) : Nat → Option Nat → Nat → Nat → Nat × Nat
  | 0, _, n, d => (n, d)
  | _ + 1, none, n, d => (n, d)
  | k + 1, some a, n, d => if i - a ≤ 32768 then loopF s i k (lastP s a a) (if n < mlen s a i 0 258 then mlen s a i 0 258 else n) (if n < mlen s a i 0 258 then i - a else d) else (n, d)
/-- A good repeat. -/
def GoodR (s : ByteArray) (i n d : Nat) : Prop := n = 0 ∨ (n ≤ 258 ∧ 1 ≤ d ∧ d ≤ 32768 ∧ d ≤ i ∧ ∀ j, j < n → i + j < s.size ∧ byt s (i - d + j) = byt s (i + j))
theorem loopF_ok (s : ByteArray) (i k : Nat) : ∀ o n d, (∀ a, o = some a → a < i) → GoodR s i n d → GoodR s i (loopF s i k o n d).1 (loopF s i k o n d).2 := by
  induction k with
  | zero => intro o n d _ h; exact h
  | succ k ih =>
    intro o n d ho h
    cases o with
    | none => exact h
    | some a =>
      unfold loopF
      split
      · rename_i hw
        have ha := ho a rfl
        refine ih _ _ _ (fun b hb => by have := (lastP_lt s a a b hb).1; omega) ?_
        split
        · right
          obtain ⟨h1, h2⟩ := mlen_ok s a i 258 0 (fun j hj => by omega)
          refine ⟨by omega, by omega, hw, by omega, fun j hj => ?_⟩
          rw [show i - (i - a) + j = a + j by omega]
          exact h1 j hj
        · exact h
      · exact h
def bestF (s : ByteArray) (far q i : Nat) : Nat × Nat :=
  if s.size < i + 3 ∨ far = 0 then (0, 0) else if (loopF s i far (lastP s i q) 0 0).1 < 3 then (0, 0) else loopF s i far (lastP s i q) 0 0
theorem bestF_ok (s : ByteArray) (far q i : Nat) (hq : q ≤ i) : GoodR s i (bestF s far q i).1 (bestF s far q i).2 ∧ ((bestF s far q i).1 = 0 ∨ 3 ≤ (bestF s far q i).1) ∧ (far = 0 → (bestF s far q i).1 = 0) := by
  unfold bestF
  split
  · exact ⟨.inl rfl, .inl rfl, fun _ => rfl⟩
  · rename_i hc
    split
    · exact ⟨.inl rfl, .inl rfl, fun _ => rfl⟩
    · refine ⟨loopF_ok s i far _ 0 0 (fun a ha => by have := (lastP_lt s i q a ha).1; omega) (.inl rfl), .inr (by omega), fun h => absurd (.inr h) hc⟩
/-- The next token's length, by both looks. -/
def pick5 (s : ByteArray) (lv i : Nat) : Nat :=
  if 0 < (bestF s (lv * lv) i i).1 ∧ 4 < lv ∧ i + 1 < s.size ∧ (bestF s (lv * lv) i i).1 + 1 < (bestF s (lv * lv) (i + 1) (i + 1)).1 then 0 else (bestF s (lv * lv) i i).1
def tokF (s : ByteArray) (lv : Nat) : Nat → Nat → List Tok
  | 0, _ => []
  | f + 1, i => if i < s.size then (if pick5 s lv i = 0 then ⟨byt s i, 0, 0⟩ :: tokF s lv f (i + 1) else ⟨0, (pick5 s lv i : Int), ((bestF s (lv * lv) i i).2 : Int)⟩ :: tokF s lv f (i + pick5 s lv i)) else []
end Go.Proofs.Ytjnglahjngiofaa
