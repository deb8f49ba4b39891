/- Texts cut by what stands in them, in plain Lean: fingerprints, the ring, the chunks. Conditions: none. -/
import Derived.Test.YtgjofpefglbjjaaGf2
import Derived.Test.YtgjofpefglbjjaaOf9
namespace Go.Proofs.Ytgjofpefglbjjaa
open Go.RowKit

/-- The polynomial of the fingerprints. -/
def QQ : Nat := 17349423945073011
/-- The last sixteen bytes. -/
def last16 (l : List UInt8) : List UInt8 := l.drop (l.length - 16)
/-- The fingerprint. -/
def fp (l : List UInt8) : Nat := Gf.md (Gf.tx (last16 l)) QQ
/-- Byte j of the window, noughts ahead. -/
def win (h : List UInt8) (j : Nat) : Nat := if h.length + j < 16 then 0 else (h.getD (h.length + j - 16) 0).toNat
theorem win_snoc (h : List UInt8) (c : UInt8) (j : Nat) (hj : j < 16) : win (h ++ [c]) j = if j = 15 then c.toNat else win h (j + 1) := by
  unfold win
  rw [List.length_append, List.length_singleton]
  by_cases h15 : j = 15
  · subst h15
    rw [if_pos rfl, if_neg (by omega), show h.length + 1 + 15 - 16 = h.length by omega]
    simp
  · rw [if_neg h15]
    by_cases h2 : h.length + 1 + j < 16
    · rw [if_pos h2, if_pos (by omega)]
    · rw [if_neg h2, if_neg (by omega), show h.length + 1 + j - 16 = h.length + (j + 1) - 16 by omega]
      congr 1
      simp only [List.getD]
      rw [List.getElem?_append_left (by omega)]
theorem win_lt (h : List UInt8) (j : Nat) : win h j < 256 := by
  unfold win
  split
  · decide
  · exact UInt8.toNat_lt _
theorem win_nil (j : Nat) (hj : j < 16) : win [] j = 0 := by unfold win; rw [if_pos (by simpa using hj)]

theorem tx_cons (x : UInt8) (l : List UInt8) : Gf.tx (x :: l) = x.toNat * 256 ^ l.length + Gf.tx l := by
  have : ∀ (l : List UInt8) (a : Nat), l.foldl (fun a c => a * 256 + c.toNat) a = a * 256 ^ l.length + Gf.tx l := by
    intro l
    induction l with
    | nil => intro a; simp [Gf.tx]
    | cons y r ih =>
      intro a
      rw [List.foldl_cons, ih, List.length_cons, Nat.pow_succ]
      show _ = _ + (r.foldl (fun a c => a * 256 + c.toNat) (0 * 256 + y.toNat))
      rw [ih, Nat.zero_mul, Nat.zero_add, Nat.add_mul, ← Nat.add_assoc, Nat.mul_assoc, Nat.mul_comm 256]
  have h := this l x.toNat
  show (x :: l).foldl (fun a c => a * 256 + c.toNat) 0 = _
  rw [List.foldl_cons, Nat.zero_mul, Nat.zero_add, h]
theorem add_xor_pow (a b n : Nat) (h : b < 2 ^ n) : a * 2 ^ n + b = (a * 2 ^ n) ^^^ b := by
  have h2 := Nat.shiftLeft_add_eq_or_of_lt h a
  rw [Nat.shiftLeft_eq] at h2
  rw [h2]
  apply Nat.eq_of_testBit_eq
  intro i
  rw [Nat.testBit_or, Nat.testBit_xor, Nat.mul_comm, Nat.testBit_two_pow_mul]
  rcases Nat.lt_or_ge i n with hi | hi
  · have : decide (n ≤ i) = false := by simp; omega
    simp [this]
  · have : b.testBit i = false := Nat.testBit_lt_two_pow (Nat.lt_of_lt_of_le h (Nat.pow_le_pow_right (by decide) hi))
    simp [this]
theorem tx_lt16 (l : List UInt8) (h : l.length = 16) : Gf.tx l < 2 ^ 128 := by
  have := tx_lt_list l
  rwa [h] at this
/-- One byte more, the oldest less. -/
theorem tx_roll (h : List UInt8) (c : UInt8) : Gf.tx (last16 h) * 256 + c.toNat = (win h 0 * 2 ^ 128) ^^^ Gf.tx (last16 (h ++ [c])) := by
  by_cases hl : h.length < 16
  · have e1 : last16 h = h := by unfold last16; rw [show h.length - 16 = 0 by omega]; rfl
    have e2 : last16 (h ++ [c]) = h ++ [c] := by unfold last16; rw [List.length_append, List.length_singleton, show h.length + 1 - 16 = 0 by omega]; rfl
    have e3 : win h 0 = 0 := by unfold win; rw [if_pos (by omega)]
    rw [e1, e2, e3, Nat.zero_mul, Nat.zero_xor, Gf.tx_snoc]
  · obtain ⟨x, r, hx⟩ : ∃ x r, last16 h = x :: r := by
      cases e : last16 h with
      | nil =>
        have : (last16 h).length = 16 := by unfold last16; rw [List.length_drop]; omega
        rw [e] at this; cases this
      | cons x r => exact ⟨x, r, rfl⟩
    have hlen : (last16 h).length = 16 := by unfold last16; rw [List.length_drop]; omega
    have hr : r.length = 15 := by rw [hx, List.length_cons] at hlen; omega
    have e2 : last16 (h ++ [c]) = r ++ [c] := by
      unfold last16
      rw [List.length_append, List.length_singleton, show h.length + 1 - 16 = h.length - 16 + 1 by omega, ← List.drop_drop, List.drop_append_of_le_length (by omega)]
      unfold last16 at hx
      rw [hx]
      rfl
    have e3 : win h 0 = x.toNat := by
      unfold win
      rw [if_neg (by omega)]
      have : (last16 h)[0]? = h[h.length - 16]? := by unfold last16; rw [List.getElem?_drop]; rfl
      rw [hx] at this
      simp only [List.getD, Nat.add_zero, ← this]
      rfl
    rw [hx, e2, e3, ← Gf.tx_snoc, List.cons_append, tx_cons]
    have hl2 : (r ++ [c]).length = 16 := by simp [hr]
    rw [hl2, show (256 : Nat) ^ 16 = 2 ^ 128 by decide]
    exact add_xor_pow _ _ _ (tx_lt16 _ hl2)
theorem QQ_ne : QQ ≠ 0 := by decide
theorem fp_roll (h : List UInt8) (c : UInt8) : fp (h ++ [c]) = Gf.md (fp h * 256 + c.toNat) QQ ^^^ Gf.md (win h 0 * 2 ^ 128) QQ := by
  unfold fp
  rw [md_horner _ _ _ (UInt8.toNat_lt c) QQ_ne, tx_roll, Gf.md_xor QQ_ne, Nat.xor_comm (Gf.md (win h 0 * 2 ^ 128) QQ), Gf.xor_cancel]
theorem fp_nil : fp [] = 0 := by unfold fp last16; simp [Gf.tx, Gf.md_zero]
/-- What leaves with bit i of the oldest byte. -/
def og (i : Nat) : Nat := Gf.md (2 ^ i * 2 ^ 128) QQ
theorem og_step (x i : Nat) : Gf.md ((x % 2 ^ (i + 1)) * 2 ^ 128) QQ = Gf.md ((x % 2 ^ i) * 2 ^ 128) QQ ^^^ (if x.testBit i then og i else 0) := by
  have e : (x % 2 ^ (i + 1)) * 2 ^ 128 = (x % 2 ^ i) * 2 ^ 128 ^^^ (if x.testBit i then 2 ^ i * 2 ^ 128 else 0) := by
    rw [← Gf.cl_pow, ← Gf.cl_pow, mod_bit, Gf.cl_xor_left]
    congr 1
    split
    · rw [Gf.cl_pow]
    · rw [Gf.zero_cl]
  rw [e, Gf.md_xor QQ_ne]
  congr 1
  split
  · rfl
  · exact Gf.md_zero _
theorem fitQ : fitB QQ = true := by
  unfold fitB
  rw [Gf.len_lenF]
  decide +kernel
theorem lenQ : Gf.len QQ = 54 := by rw [Gf.len_lenF]; decide +kernel
theorem lt53 (a : Nat) : Gf.md a QQ < 9007199254740992 := by
  have := Gf.lt_of_len (a := Gf.md a QQ) (n := 53) (by have h := (Gf.md_spec a QQ_ne).2; rw [lenQ] at h; omega)
  simpa using this

/-! ## chunks -/
/-- Does a chunk of n bytes end behind the bytes h? -/
def cend (mn b mx : Nat) (h : List UInt8) (n : Nat) : Bool := (n == mx) || (decide (mn ≤ n) && (fp h % 2 ^ b == 0))
structure CS where
  hist : List UInt8
  begun : List UInt8
  out : List (List UInt8)
def cstep (mn b mx : Nat) (S : CS) (c : UInt8) : CS :=
  if cend mn b mx (S.hist ++ [c]) (S.begun.length + 1) then ⟨S.hist ++ [c], [], S.out ++ [S.begun ++ [c]]⟩ else ⟨S.hist ++ [c], S.begun ++ [c], S.out⟩
def crun (mn b mx : Nat) (S : CS) (l : List UInt8) : CS := l.foldl (cstep mn b mx) S
theorem crun_nil (mn b mx : Nat) (S : CS) : crun mn b mx S [] = S := rfl
theorem crun_snoc (mn b mx : Nat) (S : CS) (l : List UInt8) (c : UInt8) : crun mn b mx S (l ++ [c]) = cstep mn b mx (crun mn b mx S l) c := by simp [crun]
theorem crun_append (mn b mx : Nat) (S : CS) (l m : List UInt8) : crun mn b mx S (l ++ m) = crun mn b mx (crun mn b mx S l) m := by simp [crun]
theorem crun_hist (mn b mx : Nat) (S : CS) (l : List UInt8) : (crun mn b mx S l).hist = S.hist ++ l := by
  induction l generalizing S with
  | nil => simp [crun]
  | cons c r ih =>
    show (crun mn b mx (cstep mn b mx S c) r).hist = _
    rw [ih]
    have : (cstep mn b mx S c).hist = S.hist ++ [c] := by unfold cstep; split <;> rfl
    rw [this]; simp
/-- What was begun, as a chunk of its own. -/
def rest1 (g : List UInt8) : List (List UInt8) := if g = [] then [] else [g]
def c0 : CS := ⟨[], [], []⟩
/-- A text's chunks. -/
def csplit (mn b mx : Nat) (l : List UInt8) : List (List UInt8) := (crun mn b mx c0 l).out ++ rest1 (crun mn b mx c0 l).begun
end Go.Proofs.Ytgjofpefglbjjaa
