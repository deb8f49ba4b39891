/- Streams that are written field by field are read field by field. Plain. Conditions: none. -/
import Derived.Test.YtjnglahjngiofaaFixR
namespace Go.Proofs.Ytjnglahjngiofaa
open Go.RowKit
set_option maxRecDepth 100000

/-- Values of so many bits each, one behind the other. -/
def encV : List (Nat × Nat) → Nat
  | [] => 0
  | x :: r => x.1 % 2 ^ x.2 + 2 ^ x.2 * encV r
def encN : List (Nat × Nat) → Nat
  | [] => 0
  | x :: r => x.2 + encN r
theorem encN_app (a b : List (Nat × Nat)) : encN (a ++ b) = encN a + encN b := by
  induction a with
  | nil => simp [encN]
  | cons x r ih => simp only [List.cons_append, encN, ih]; omega
theorem encV_app (a b : List (Nat × Nat)) : encV (a ++ b) = encV a + 2 ^ encN a * encV b := by
  induction a with
  | nil => simp [encV, encN]
  | cons x r ih => simp only [List.cons_append, encV, encN, ih, Nat.mul_add, Nat.pow_add, Nat.mul_assoc, Nat.add_assoc]
theorem encV_lt (a : List (Nat × Nat)) : encV a < 2 ^ encN a := by
  induction a with
  | nil => decide
  | cons x r ih =>
    simp only [encV, encN, Nat.pow_add]
    have h1 : x.1 % 2 ^ x.2 < 2 ^ x.2 := Nat.mod_lt _ (pow_pos2 _)
    have h2 := Nat.mul_le_mul_left (2 ^ x.2) (show encV r + 1 ≤ 2 ^ encN r from ih)
    rw [Nat.mul_add, Nat.mul_one] at h2
    omega
theorem encV_snoc (a : List (Nat × Nat)) (x k : Nat) : encV (a ++ [(x, k)]) = encV a + x % 2 ^ k * 2 ^ encN a := by
  rw [encV_app]
  simp only [encV, Nat.mul_zero, Nat.add_zero]
  rw [Nat.mul_comm]
theorem encN_snoc (a : List (Nat × Nat)) (x k : Nat) : encN (a ++ [(x, k)]) = encN a + k := by
  rw [encN_app]; rfl
/-- These fields, then m bits of Y. -/
def rd (l : List (Nat × Nat)) (Y m out : Nat) : Sg := ⟨encV l + 2 ^ encN l * Y, encN l + m, out⟩
theorem rd_cons (x k : Nat) (l : List (Nat × Nat)) (Y m out : Nat) : rd ((x, k) :: l) Y m out = ⟨x % 2 ^ k + 2 ^ k * (encV l + 2 ^ encN l * Y), k + (encN l + m), out⟩ := by
  unfold rd
  simp only [encV, encN, Nat.pow_add, Nat.mul_add, Nat.mul_assoc, Nat.add_assoc]
theorem rd_out (l : List (Nat × Nat)) (Y m out : Nat) : (rd l Y m out).out = out := rfl
theorem rd_n (l : List (Nat × Nat)) (Y m out : Nat) : (rd l Y m out).n = encN l + m := rfl
theorem head_div (x k Z : Nat) : (x % 2 ^ k + 2 ^ k * Z) / 2 ^ k = Z := by
  rw [Nat.add_mul_div_left _ _ (pow_pos2 k), Nat.div_eq_of_lt (Nat.mod_lt _ (pow_pos2 k)), Nat.zero_add]
theorem head_mod (x k Z : Nat) : (x % 2 ^ k + 2 ^ k * Z) % 2 ^ k = x % 2 ^ k := by
  rw [Nat.add_mul_mod_self_left, Nat.mod_mod]
theorem bits_rd (x k : Nat) (l : List (Nat × Nat)) (Y m out : Nat) : bitsM k (rd ((x, k) :: l) Y m out) = .ok (x % 2 ^ k, rd l Y m out) := by
  rw [rd_cons]
  unfold bitsM
  rw [if_neg (by show ¬ k + (encN l + m) < k; omega)]
  show Except.ok ((x % 2 ^ k + 2 ^ k * (encV l + 2 ^ encN l * Y)) % 2 ^ k, (⟨(x % 2 ^ k + 2 ^ k * (encV l + 2 ^ encN l * Y)) / 2 ^ k, k + (encN l + m) - k, out⟩ : Sg)) = _
  rw [head_div, head_mod, Nat.add_sub_cancel_left]
  rfl
theorem bits_rd' {x k : Nat} (h : x < 2 ^ k) (l : List (Nat × Nat)) (Y m out : Nat) : bitsM k (rd ((x, k) :: l) Y m out) = .ok (x, rd l Y m out) := by
  rw [bits_rd, Nat.mod_eq_of_lt h]

/-- A symbol's code as a field. -/
def symE (L : Nat → Nat) (c s : Nat) : Nat × Nat := (rev (bitsF L c s) (L s), L s)
theorem bitsF_lt (L : Nat → Nat) (c s : Nat) (hs : s < c) (h15 : ∀ i, i < c → L i ≤ 15) (hp : parts L c ≤ 32768) : bitsF L c s < 2 ^ L s := by
  unfold bitsF
  by_cases h : 0 < L s
  · rw [if_pos h]; exact code_fits L c s hs h (h15 s hs) hp
  · rw [if_neg h]; exact pow_pos2 _
theorem sym_rd {L : Nat → Nat} {c s : Nat} (h15 : ∀ i, i < c → L i ≤ 15) (hp : parts L c ≤ 32768) (hs : s < c) (h1 : 0 < L s) (l : List (Nat × Nat)) (Y m out : Nat) : symM L c (rd (symE L c s :: l) Y m out) = .ok (s, rd l Y m out) := by
  unfold symE
  rw [rd_cons]
  have hb := bitsF_lt L c s hs h15 hp
  have hr : bitsF L c s = rev (rev (bitsF L c s) (L s) % 2 ^ L s + 2 ^ L s * (encV l + 2 ^ encN l * Y)) (L s) := by
    rw [← rev_mod _ (L s) (L s) (Nat.le_refl _), head_mod, rev_mod _ _ _ (Nat.le_refl _), rev_rev, Nat.mod_eq_of_lt hb]
  rw [symM_code (t := L s) h15 hs rfl h1 (by show L s ≤ L s + _; omega) hr]
  show Except.ok (s, (⟨(rev (bitsF L c s) (L s) % 2 ^ L s + 2 ^ L s * (encV l + 2 ^ encN l * Y)) / 2 ^ L s, L s + (encN l + m) - L s, out⟩ : Sg)) = _
  rw [head_div, Nat.add_sub_cancel_left]
  rfl

/-- The last size below k whose least number isn't above n. -/
def symF (far : Bool) (n : Nat) : Nat → Nat
  | 0 => 0
  | k + 1 => if 0 < (sizeS far (k : Int)).1 ∧ (sizeS far (k : Int)).1 ≤ n then k else symF far n k
theorem size_len (k : Nat) (h : k ≤ 27) : sizeS false (k : Int) = ((stepS 4 3 k).1, moreS 4 3 k) := by
  unfold sizeS
  rw [if_neg (by decide), if_neg (by omega), if_neg (by omega)]
  rfl
theorem size_dist (k : Nat) (h : k ≤ 29) : sizeS true (k : Int) = ((stepS 2 1 k).1, moreS 2 1 k) := by
  unfold sizeS
  rw [if_pos rfl, if_neg (by omega)]
  rfl
theorem symF_spec (far : Bool) (n : Nat) (h0 : 0 < (sizeS far 0).1 ∧ (sizeS far 0).1 ≤ n) : ∀ k, symF far n (k + 1) ≤ k ∧ (0 < (sizeS far (symF far n (k + 1) : Nat)).1 ∧ (sizeS far (symF far n (k + 1) : Nat)).1 ≤ n) ∧ ∀ j : Nat, symF far n (k + 1) < j → j ≤ k → ¬ (0 < (sizeS far (j : Int)).1 ∧ (sizeS far (j : Int)).1 ≤ n) := by
  intro k
  induction k with
  | zero =>
    have e : symF far n 1 = 0 := by
      show (if _ then _ else _) = _
      split <;> rfl
    rw [e]
    exact ⟨Nat.le_refl _, h0, fun j h1 h2 => by omega⟩
  | succ k ih =>
    by_cases hk : 0 < (sizeS far ((k + 1 : Nat) : Int)).1 ∧ (sizeS far ((k + 1 : Nat) : Int)).1 ≤ n
    · have e : symF far n (k + 1 + 1) = k + 1 := if_pos hk
      rw [e]
      exact ⟨Nat.le_refl _, hk, fun j h1 h2 => by omega⟩
    · have e : symF far n (k + 1 + 1) = symF far n (k + 1) := if_neg hk
      rw [e]
      refine ⟨by omega, ih.2.1, fun j h1 h2 => ?_⟩
      by_cases ej : j = k + 1
      · rw [ej]; exact hk
      · exact ih.2.2 j h1 (by omega)
theorem step_pos : ∀ k, k ≤ 29 → 0 < (stepS 4 3 k).1 ∧ 0 < (stepS 2 1 k).1 := by decide
theorem len_size (n : Nat) (h3 : 3 ≤ n) (h258 : n ≤ 258) : symF false n 29 ≤ 28 ∧ (sizeS false (symF false n 29 : Nat)).1 ≤ n ∧ n - (sizeS false (symF false n 29 : Nat)).1 < 2 ^ (sizeS false (symF false n 29 : Nat)).2 := by
  obtain ⟨h1, ⟨_, h2⟩, h4⟩ := symF_spec false n ⟨by decide, by show 3 ≤ n; exact h3⟩ 28
  obtain ⟨i, hi⟩ : ∃ i, symF false n 29 = i := ⟨_, rfl⟩
  rw [show 28 + 1 = 29 from rfl, hi] at h1 h2 h4
  rw [hi]
  refine ⟨h1, h2, ?_⟩
  by_cases e28 : i = 28
  · subst e28
    have e1 : (sizeS false ((28 : Nat) : Int)) = (258, 0) := by decide
    rw [e1] at h2 ⊢
    show n - 258 < 2 ^ 0
    omega
  · rw [size_len i (by omega)] at h2 ⊢
    by_cases e27 : i = 27
    · subst e27
      have e1 : (stepS 4 3 27).1 = 227 := by decide
      have e2 : moreS 4 3 27 = 5 := by decide
      have := h4 28 (by omega) (by omega)
      have e3 : (sizeS false ((28 : Nat) : Int)) = (258, 0) := by decide
      rw [e3] at this
      show n - (stepS 4 3 27).1 < 2 ^ moreS 4 3 27
      rw [e1, e2]
      have : ¬ (258 ≤ n) := fun h => this ⟨by decide, h⟩
      omega
    · have := h4 (i + 1) (by omega) (by omega)
      rw [size_len (i + 1) (by omega), stepS_succ] at this
      have hp := (step_pos i (by omega)).1
      have : ¬ ((stepS 4 3 i).1 + 2 ^ moreS 4 3 i ≤ n) := fun h => this ⟨by have := pow_pos2 (moreS 4 3 i); show 0 < (stepS 4 3 i).1 + 2 ^ moreS 4 3 i; omega, h⟩
      show n - (stepS 4 3 i).1 < 2 ^ moreS 4 3 i
      have : (stepS 4 3 i).1 ≤ n := h2
      omega
theorem dist_size (n : Nat) (h1n : 1 ≤ n) (hn : n ≤ 32768) : symF true n 30 ≤ 29 ∧ (sizeS true (symF true n 30 : Nat)).1 ≤ n ∧ n - (sizeS true (symF true n 30 : Nat)).1 < 2 ^ (sizeS true (symF true n 30 : Nat)).2 := by
  obtain ⟨h1, ⟨_, h2⟩, h4⟩ := symF_spec true n ⟨by decide, by show 1 ≤ n; exact h1n⟩ 29
  obtain ⟨i, hi⟩ : ∃ i, symF true n 30 = i := ⟨_, rfl⟩
  rw [show 29 + 1 = 30 from rfl, hi] at h1 h2 h4
  rw [hi]
  refine ⟨h1, h2, ?_⟩
  rw [size_dist i (by omega)] at h2 ⊢
  by_cases e29 : i = 29
  · subst e29
    have e1 : (stepS 2 1 29).1 = 24577 := by decide
    have e2 : moreS 2 1 29 = 13 := by decide
    show n - (stepS 2 1 29).1 < 2 ^ moreS 2 1 29
    rw [e1, e2]
    omega
  · have := h4 (i + 1) (by omega) (by omega)
    rw [size_dist (i + 1) (by omega), stepS_succ] at this
    have : ¬ ((stepS 2 1 i).1 + 2 ^ moreS 2 1 i ≤ n) := fun h => this ⟨by have := pow_pos2 (moreS 2 1 i); show 0 < (stepS 2 1 i).1 + 2 ^ moreS 2 1 i; omega, h⟩
    show n - (stepS 2 1 i).1 < 2 ^ moreS 2 1 i
    have : (stepS 2 1 i).1 ≤ n := h2
    omega

/-- The number of a length's symbol, of a distance's. -/
def lsym (t : Tok) : Nat := symF false t.l.toNat 29
def dsym (t : Tok) : Nat := symF true t.d.toNat 30
/-- A token's fields. -/
def tokE (L : Nat → Nat) (c : Nat) (D : Nat → Nat) (d : Nat) (t : Tok) : List (Nat × Nat) :=
  if t.l = 0 then [symE L c t.b.toNat]
  else [symE L c (257 + lsym t), (t.l.toNat - (sizeS false (lsym t : Nat)).1, (sizeS false (lsym t : Nat)).2), symE D d (dsym t), (t.d.toNat - (sizeS true (dsym t : Nat)).1, (sizeS true (dsym t : Nat)).2)]
/-- Has each symbol of a token a code? -/
def TokHas (L D : Nat → Nat) (t : Tok) : Prop := if t.l = 0 then 0 < L t.b.toNat else 0 < L (257 + lsym t) ∧ 0 < D (dsym t)
structure CodesOK (L : Nat → Nat) (c : Nat) (D : Nat → Nat) (d : Nat) : Prop where
  l15 : ∀ i, i < c → L i ≤ 15
  d15 : ∀ i, i < d → D i ≤ 15
  lp : parts L c ≤ 32768
  dp : parts D d ≤ 32768
  c257 : 257 ≤ c

theorem terr_zero {most : Int} {n : Nat} {t : Tok} (h : terr most n t = 0) : (t.l = 0 ∧ t.d = 0 ∧ (n : Int) < most) ∨ (t.l ≠ 0 ∧ t.b = 0 ∧ 3 ≤ t.l ∧ t.l ≤ 258 ∧ 1 ≤ t.d ∧ t.d ≤ 32768 ∧ t.d ≤ (n : Int) ∧ (n : Int) + t.l ≤ most) := by
  unfold terr at h
  by_cases h0 : t.l = 0
  · rw [if_pos h0] at h
    by_cases h1 : t.d = 0
    · rw [if_neg (by simpa using h1)] at h
      by_cases h2 : most ≤ (n : Int)
      · rw [if_pos h2] at h; omega
      · exact .inl ⟨h0, h1, by omega⟩
    · rw [if_pos h1] at h; omega
  · rw [if_neg h0] at h
    by_cases h1 : t.b ≠ 0 ∨ t.l < 3 ∨ 258 < t.l ∨ t.d < 1 ∨ 32768 < t.d ∨ (n : Int) < t.d
    · rw [if_pos h1] at h; omega
    · rw [if_neg h1] at h
      have hb : t.b = 0 := by
        by_cases e : t.b = 0
        · exact e
        · exact absurd (.inl e) h1
      have h1' := fun x => h1 (.inr x)
      by_cases h2 : most < (n : Int) + t.l
      · rw [if_pos h2] at h; omega
      · exact .inr ⟨h0, hb, by omega, by omega, by omega, by omega, by omega, by omega⟩

theorem tok_rd {L : Nat → Nat} {c : Nat} {D : Nat → Nat} {d most : Nat} (C : CodesOK L c D d) (t : Tok) (out : Nat) (ht : terr (most : Int) out t = 0) (hh : TokHas L D t) (hc : t.l ≠ 0 → 257 + lsym t < c ∧ dsym t < d) (l : List (Nat × Nat)) (Y m : Nat) :
    tokStep L c D d most (rd (tokE L c D d t ++ l) Y m out) = .ok (some t, rd l Y m (out + tlen t)) := by
  unfold tokStep tokE
  rcases terr_zero ht with ⟨h0, h1, h2⟩ | ⟨h0, hb, h3, h4, h5, h6, h7, h8⟩
  · have hb := t.b.toNat_lt
    have h257 := C.c257
    unfold TokHas at hh
    rw [if_pos h0] at hh
    rw [if_pos h0]
    show thenR (symM L c (rd (symE L c t.b.toNat :: l) Y m out)) _ = _
    rw [sym_rd C.l15 C.lp (by omega) hh, thenR_ok, if_neg (by omega), if_pos (by omega)]
    unfold growM
    rw [if_neg (by rw [rd_out]; omega), thenR_ok]
    have e : (⟨UInt8.ofNat t.b.toNat, 0, 0⟩ : Tok) = t := by
      cases t
      rename_i b ll dd
      simp only at h0 h1
      subst h0 h1
      congr 1
      simp
    rw [e]
    have e2 : tlen t = 1 := by unfold tlen; rw [if_pos h0]
    rw [e2]
    rfl
  · unfold TokHas at hh
    rw [if_neg h0] at hh
    rw [if_neg h0]
    obtain ⟨hc1, hc2⟩ := hc h0
    obtain ⟨a1, a2, a3⟩ := len_size t.l.toNat (by omega) (by omega)
    obtain ⟨b1, b2, b3⟩ := dist_size t.d.toNat (by omega) (by omega)
    have ea : lsym t = symF false t.l.toNat 29 := rfl
    have eb : dsym t = symF true t.d.toNat 30 := rfl
    rw [← ea] at a1 a2 a3
    rw [← eb] at b1 b2 b3
    show thenR (symM L c (rd (symE L c (257 + lsym t) :: (t.l.toNat - (sizeS false (lsym t : Nat)).1, (sizeS false (lsym t : Nat)).2) :: symE D d (dsym t) :: (t.d.toNat - (sizeS true (dsym t : Nat)).1, (sizeS true (dsym t : Nat)).2) :: l) Y m out)) _ = _
    rw [sym_rd C.l15 C.lp hc1 hh.1, thenR_ok, if_neg (by omega), if_neg (by omega), if_neg (by omega)]
    have e1 : ((257 + lsym t : Nat) : Int) - 257 = ((lsym t : Nat) : Int) := by omega
    rw [e1, bits_rd' a3, thenR_ok, sym_rd C.d15 C.dp hc2 hh.2, thenR_ok, if_neg (by omega), bits_rd' b3, thenR_ok, if_neg (by rw [rd_out]; omega)]
    unfold growM
    rw [show (sizeS false ((lsym t : Nat) : Int)).1 + (t.l.toNat - (sizeS false ((lsym t : Nat) : Int)).1) = t.l.toNat by omega, show (sizeS true ((dsym t : Nat) : Int)).1 + (t.d.toNat - (sizeS true ((dsym t : Nat) : Int)).1) = t.d.toNat by omega]
    rw [if_neg (by rw [rd_out]; omega), thenR_ok]
    have e : (⟨0, ((t.l.toNat : Nat) : Int), ((t.d.toNat : Nat) : Int)⟩ : Tok) = t := by
      cases t
      rename_i b ll dd
      simp only at hb h3 h5
      subst hb
      congr 1
      · show ((ll.toNat : Nat) : Int) = ll; omega
      · show ((dd.toNat : Nat) : Int) = dd; omega
    rw [e]
    have e2 : tlen t = t.l.toNat := by unfold tlen; rw [if_neg h0]
    rw [e2]
    rfl
theorem end_rd {L : Nat → Nat} {c : Nat} {D : Nat → Nat} {d most : Nat} (C : CodesOK L c D d) (h : 0 < L 256) (l : List (Nat × Nat)) (Y m out : Nat) : tokStep L c D d most (rd (symE L c 256 :: l) Y m out) = .ok (none, rd l Y m out) := by
  unfold tokStep
  have h257 := C.c257
  rw [sym_rd C.l15 C.lp (by omega) h, thenR_ok, if_pos rfl]
/-- The fields of tokens. -/
def toksE (L : Nat → Nat) (c : Nat) (D : Nat → Nat) (d : Nat) (S : List Tok) : List (Nat × Nat) := S.flatMap (tokE L c D d)
theorem toksE_cons (L : Nat → Nat) (c : Nat) (D : Nat → Nat) (d : Nat) (t : Tok) (S : List Tok) : toksE L c D d (t :: S) = tokE L c D d t ++ toksE L c D d S := rfl
theorem toksE_app (L : Nat → Nat) (c : Nat) (D : Nat → Nat) (d : Nat) (S T : List Tok) : toksE L c D d (S ++ T) = toksE L c D d S ++ toksE L c D d T := List.flatMap_append
theorem texp_cons {most : Int} {o : List UInt8} {t : Tok} {r : List Tok} {T : List UInt8} (h : texp most o (t :: r) = (T, 0)) : terr most o.length t = 0 ∧ texp most (tout o t) r = (T, 0) := by
  by_cases h0 : terr most o.length t = 0
  · exact ⟨h0, (texp_step h0).symm.trans h⟩
  · rw [texp_stop rfl h0] at h
    injection h with _ h
    exact absurd h h0
theorem toks_rd {L : Nat → Nat} {c : Nat} {D : Nat → Nat} {d most : Nat} (C : CodesOK L c D d) (h256 : 0 < L 256) (l : List (Nat × Nat)) (Y m : Nat) (T : List UInt8) : ∀ (S : List Tok) (o : List UInt8) (f : Nat) (S0 : List Tok), texp (most : Int) o S = (T, 0) → (∀ t ∈ S, TokHas L D t ∧ (t.l ≠ 0 → 257 + lsym t < c ∧ dsym t < d)) → S.length < f →
    tokM L c D d most f (rd (toksE L c D d S ++ symE L c 256 :: l) Y m o.length) S0 = .ok (S0 ++ S, rd l Y m (o.length + tlenS S)) := by
  intro S
  induction S with
  | nil =>
    intro o f S0 h1 h2 h3
    obtain ⟨f, rfl⟩ : ∃ g, f = g + 1 := ⟨f - 1, by omega⟩
    show thenR (tokStep L c D d most (rd (symE L c 256 :: l) Y m o.length)) _ = _
    rw [end_rd C h256, thenR_ok, List.append_nil]
    rfl
  | cons t S ih =>
    intro o f S0 h1 h2 h3
    obtain ⟨f, rfl⟩ : ∃ g, f = g + 1 := ⟨f - 1, by omega⟩
    obtain ⟨h4, h5⟩ := texp_cons h1
    obtain ⟨h6, h7⟩ := h2 t (List.mem_cons_self ..)
    rw [toksE_cons, List.append_assoc]
    show thenR (tokStep L c D d most (rd (tokE L c D d t ++ (toksE L c D d S ++ symE L c 256 :: l)) Y m o.length)) _ = _
    rw [tok_rd C t o.length h4 h6 h7, thenR_ok]
    show tokM L c D d most f _ (S0 ++ [t]) = _
    rw [← tout_len o t, ih (tout o t) f (S0 ++ [t]) h5 (fun x hx => h2 x (List.mem_cons_of_mem _ hx)) (by simpa using h3), List.append_assoc, tout_len]
    have e : tlenS (t :: S) = tlen t + tlenS S := rfl
    rw [e, Nat.add_assoc]
    rfl
/-- What tokens say is their text. -/
theorem texp_join (most : Int) : ∀ (S : List Tok) (o T : List UInt8), texp most o S = (T, 0) → joinS o S = T := by
  intro S
  induction S with
  | nil => intro o T h; injection h
  | cons t S ih =>
    intro o T h
    exact ih _ _ (texp_cons h).2
theorem texp_toks (most : Int) : ∀ (S : List Tok) (o T : List UInt8), texp most o S = (T, 0) → ∀ t ∈ S, (t.l = 0 ∧ t.d = 0) ∨ (t.l ≠ 0 ∧ t.b = 0 ∧ 3 ≤ t.l ∧ t.l ≤ 258 ∧ 1 ≤ t.d ∧ t.d ≤ 32768) := by
  intro S
  induction S with
  | nil => intro o T _ t ht; cases ht
  | cons x S ih =>
    intro o T h t ht
    obtain ⟨h1, h2⟩ := texp_cons h
    rcases List.mem_cons.1 ht with rfl | ht
    · rcases terr_zero h1 with ⟨a, b, _⟩ | ⟨a, b, c, d, e, f, _⟩
      · exact .inl ⟨a, b⟩
      · exact .inr ⟨a, b, c, d, e, f⟩
    · exact ih _ _ h2 t ht
theorem tok_syms (t : Tok) (h : 3 ≤ t.l ∧ t.l ≤ 258 ∧ 1 ≤ t.d ∧ t.d ≤ 32768) : lsym t ≤ 28 ∧ dsym t ≤ 29 :=
  ⟨(len_size t.l.toNat (by omega) (by omega)).1, (dist_size t.d.toNat (by omega) (by omega)).1⟩

theorem codes_fix : CodesOK (lens fixL) 288 (lens fun _ => 5) 32 where
  l15 := fix15
  d15 := five15
  lp := by decide +kernel
  dp := by decide +kernel
  c257 := by decide
theorem fix_pos (i : Nat) : 0 < lens fixL i := by
  unfold lens fixL
  split
  · decide
  · split
    · decide
    · split <;> decide
/-- One block of fixed codes. -/
def fixE (S : List Tok) : List (Nat × Nat) := (1, 1) :: (1, 2) :: (toksE (lens fixL) 288 (lens fun _ => 5) 32 S ++ [symE (lens fixL) 288 256])
/-- The bytes of fields. -/
def encB (l : List (Nat × Nat)) : ByteArray := ⟨(bytesN (encV l) ((encN l + 7) / 8)).toArray⟩
theorem encB_size (l : List (Nat × Nat)) : (encB l).size = (encN l + 7) / 8 := by
  show (bytesN _ _).toArray.size = _
  rw [List.size_toArray, bytesN_length]
theorem encB_sg (l : List (Nat × Nat)) : sg (encB l) 0 0 = rd l 0 (8 * ((encN l + 7) / 8) - encN l) 0 := by
  have hn : num (encB l) = encV l := by
    unfold num
    show leN (bytesN (encV l) ((encN l + 7) / 8)) = encV l
    rw [leN_bytesN, pow256, Nat.mod_eq_of_lt (Nat.lt_of_lt_of_le (encV_lt l) (Nat.pow_le_pow_right (by decide) (by omega)))]
  unfold sg rd
  rw [encB_size, hn, Nat.pow_zero, Nat.div_one, Nat.mul_zero, Nat.sub_zero, show encN l + (8 * ((encN l + 7) / 8) - encN l) = 8 * ((encN l + 7) / 8) by omega]
  rfl
theorem tokE_len (L : Nat → Nat) (c : Nat) (D : Nat → Nat) (d : Nat) (t : Tok) (h : TokHas L D t) : 1 ≤ encN (tokE L c D d t) := by
  unfold TokHas at h
  unfold tokE
  by_cases h0 : t.l = 0
  · rw [if_pos h0] at h ⊢
    simp only [encN, symE]; omega
  · rw [if_neg h0] at h ⊢
    simp only [encN, symE]; omega
theorem toksE_len (L : Nat → Nat) (c : Nat) (D : Nat → Nat) (d : Nat) (S : List Tok) (h : ∀ t ∈ S, TokHas L D t) : S.length ≤ encN (toksE L c D d S) := by
  induction S with
  | nil => exact Nat.zero_le _
  | cons t S ih =>
    rw [toksE_cons, encN_app, List.length_cons]
    have := tokE_len L c D d t (h t (List.mem_cons_self ..))
    have := ih fun x hx => h x (List.mem_cons_of_mem _ hx)
    omega
/-- Tokens that are written as a fixed block are read. -/
theorem fix_infl (S : List Tok) (most : Nat) (T : List UInt8) (h : texp (most : Int) [] S = (T, 0)) : inflR (encB (fixE S)) most = .ok ([⟨1, [], S⟩], ⟨0, 8 * ((encN (fixE S) + 7) / 8) - encN (fixE S), T.length⟩) := by
  unfold inflR
  rw [encB_sg]
  obtain ⟨m, hm⟩ : ∃ m, 8 * ((encN (fixE S) + 7) / 8) - encN (fixE S) = m := ⟨_, rfl⟩
  rw [hm]
  have hts := texp_toks _ S [] T h
  have hhas : ∀ t ∈ S, TokHas (lens fixL) (lens fun _ => 5) t ∧ (t.l ≠ 0 → 257 + lsym t < 288 ∧ dsym t < 32) := by
    intro t ht
    refine ⟨?_, fun h0 => ?_⟩
    · unfold TokHas
      split
      · exact fix_pos _
      · exact ⟨fix_pos _, show 0 < 5 by decide⟩
    · rcases hts t ht with ⟨a, _⟩ | ⟨_, _, a⟩
      · exact absurd a h0
      · have := tok_syms t a
        omega
  show thenR (blockM most (rd (fixE S) 0 m 0)) _ = _
  have hb : blockM most (rd (fixE S) 0 m 0) = .ok ((1, ⟨1, [], S⟩), rd [] 0 m (0 + tlenS S)) := by
    unfold blockM fixE
    rw [bits_rd' (by decide), thenR_ok, bits_rd' (by decide), thenR_ok, if_neg (by decide), if_pos rfl, tokensM_fix]
    have e0 : tokM (lens fixL) 288 (lens fun _ => 5) 32 most ((rd (toksE (lens fixL) 288 (lens fun _ => 5) 32 S ++ [symE (lens fixL) 288 256]) 0 m 0).n + 1) (rd (toksE (lens fixL) 288 (lens fun _ => 5) 32 S ++ [symE (lens fixL) 288 256]) 0 m 0) [] = .ok ([] ++ S, rd [] 0 m (0 + tlenS S)) :=
      toks_rd codes_fix (fix_pos 256) [] 0 m T S [] _ [] h hhas (by
        rw [rd_n, encN_app]
        have := toksE_len (lens fixL) 288 (lens fun _ => 5) 32 S fun t ht => (hhas t ht).1
        omega)
    rw [e0, thenR_ok]
    rfl
  rw [hb, thenR_ok]
  have e : (rd [] 0 m (0 + tlenS S)) = ⟨0, m, T.length⟩ := by
    have := joinS_len S []
    rw [texp_join _ S [] T h] at this
    unfold rd encV encN
    rw [this]
    simp
  rw [e]
  rfl
theorem fix_join (S : List Tok) (most : Int) (T : List UInt8) (h : texp most [] S = (T, 0)) : joinL [] [⟨1, [], S⟩] = T := texp_join most S [] T h
end Go.Proofs.Ytjnglahjngiofaa
