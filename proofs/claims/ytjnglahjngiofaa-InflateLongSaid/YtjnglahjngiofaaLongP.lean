/- A run told by repeats, as a fixed block. Plain. Conditions: none. -/
import Derived.Test.YtjnglahjngiofaaFixR
namespace Go.Proofs.Ytjnglahjngiofaa
open Go.RowKit
set_option maxRecDepth 100000

def repN : Nat → Nat
  | 0 => 0
  | n + 1 => 163 + 8192 * repN n
theorem repN_succ (n : Nat) : repN (n + 1) = 163 + 8192 * repN n := rfl
def longV (n : Nat) : Nat := 99 + 2048 * repN n
theorem repN_lt (n : Nat) : repN n < 2 ^ (13 * n) := by
  induction n with
  | zero => decide
  | succ n ih =>
    have e : 2 ^ (13 * (n + 1)) = 8192 * 2 ^ (13 * n) := by rw [Nat.mul_add, Nat.pow_add, Nat.mul_comm]
    rw [repN_succ]
    omega
theorem longV_lt (n : Nat) : longV n < 2 ^ (11 + 13 * n) := by
  have := repN_lt n
  have e : 2 ^ (11 + 13 * n) = 2048 * 2 ^ (13 * n) := by rw [Nat.pow_add]
  unfold longV
  omega
theorem repN_div (k : Nat) : ∀ n, k ≤ n → repN n / 2 ^ (13 * k) = repN (n - k) := by
  induction k with
  | zero => intro n _; simp
  | succ k ih =>
    intro n hn
    obtain ⟨m, rfl⟩ : ∃ m, n = m + 1 := ⟨n - 1, by omega⟩
    have e : 2 ^ (13 * (k + 1)) = 8192 * 2 ^ (13 * k) := by rw [Nat.mul_add, Nat.pow_add, Nat.mul_comm]
    rw [e, ← Nat.div_div_eq_div_mul]
    have e2 : repN (m + 1) / 8192 = repN m := by rw [repN_succ]; omega
    rw [e2, ih m (by omega)]
    congr 1
    omega
/-- A bit of it. -/
def longB (n i : Nat) : Nat := longV n / 2 ^ i % 2
theorem mul_div_mod (a q d j : Nat) (h : j < d) : (a + 2 ^ d * q) / 2 ^ j % 2 = a / 2 ^ j % 2 := by
  obtain ⟨e, rfl⟩ : ∃ e, d = j + (e + 1) := ⟨d - j - 1, by omega⟩
  rw [Nat.pow_add, Nat.mul_assoc, Nat.add_mul_div_left _ _ (Nat.two_pow_pos j), Nat.pow_succ, Nat.mul_comm (2 ^ e) 2, Nat.mul_assoc]
  omega
theorem longB_head (n i : Nat) (h : i < 11) : longB n i = 99 / 2 ^ i % 2 := by
  unfold longB longV
  exact mul_div_mod 99 (repN n) 11 i h
theorem longB_rep (n k j : Nat) (hk : k < n) (hj : j < 13) : longB n (11 + 13 * k + j) = 163 / 2 ^ j % 2 := by
  unfold longB longV
  rw [Nat.pow_add, Nat.pow_add, ← Nat.div_div_eq_div_mul, ← Nat.div_div_eq_div_mul, show (99 + 2048 * repN n) / 2 ^ 11 = repN n by omega, repN_div k n (by omega)]
  obtain ⟨m, hm⟩ : ∃ m, n - k = m + 1 := ⟨n - k - 1, by omega⟩
  rw [hm]
  show (163 + 8192 * repN m) / 2 ^ j % 2 = _
  exact mul_div_mod 163 (repN m) 13 j hj
theorem longB_end (n i : Nat) (h : 11 + 13 * n ≤ i) : longB n i = 0 := by
  unfold longB
  rw [Nat.div_eq_of_lt (Nat.lt_of_lt_of_le (longV_lt n) (Nat.pow_le_pow_right (by decide) h))]
theorem longB_two (n i : Nat) : longB n i < 2 := Nat.mod_lt _ (by decide)

def repT : Tok := ⟨0, 258, 1⟩
theorem rep_step (most n m out : Nat) (ho : 1 ≤ out) : tokStep (lens fixL) 288 (lens fun _ => 5) 32 most ⟨repN (n + 1), m + 13, out⟩ = thenR (growM most 258 ⟨repN n, m, out⟩) fun _ σ => .ok (some repT, σ) := by
  have h1 : symM (lens fixL) 288 ⟨repN (n + 1), m + 13, out⟩ = .ok (285, ⟨32 * repN n, m + 5, out⟩) := by
    have hr : rev (repN (n + 1)) 8 = 197 := by
      rw [← rev_mod _ 8 8 (Nat.le_refl _)]
      have e : repN (n + 1) % 2 ^ 8 = 163 := by rw [repN_succ]; omega
      rw [e]
      decide
    have := symM_code (σ := ⟨repN (n + 1), m + 13, out⟩) fix15 (s := 285) (by decide) (t := 8) rfl (by decide) (by show 8 ≤ m + 13; omega) (by rw [code_285, hr])
    rw [this]
    have e : repN (n + 1) / 2 ^ 8 = 32 * repN n := by rw [repN_succ]; omega
    show Except.ok (285, (⟨repN (n + 1) / 2 ^ 8, m + 13 - 8, out⟩ : Sg)) = _
    rw [e, show m + 13 - 8 = m + 5 by omega]
  have h2 : symM (lens fun _ => 5) 32 ⟨32 * repN n, m + 5, out⟩ = .ok (0, ⟨repN n, m, out⟩) := by
    have hr : rev (32 * repN n) 5 = 0 := by
      rw [← rev_mod _ 5 5 (Nat.le_refl _)]
      have e : 32 * repN n % 2 ^ 5 = 0 := by omega
      rw [e]
      decide
    have := symM_code (σ := ⟨32 * repN n, m + 5, out⟩) five15 (s := 0) (by decide) (t := 5) rfl (by decide) (by show 5 ≤ m + 5; omega) (by rw [code_d0, hr])
    rw [this]
    have e : 32 * repN n / 2 ^ 5 = repN n := by omega
    show Except.ok (0, (⟨32 * repN n / 2 ^ 5, m + 5 - 5, out⟩ : Sg)) = _
    rw [e]
    rfl
  have b0 : ∀ σ : Sg, bitsM 0 σ = .ok (0, σ) := by
    intro σ
    unfold bitsM
    rw [if_neg (by omega), Nat.pow_zero, Nat.mod_one, Nat.div_one, Nat.sub_zero]
  unfold tokStep
  rw [h1, thenR_ok, if_neg (by decide), if_neg (by decide), if_neg (by decide), show (sizeS false (((285 : Nat) : Int) - 257)).2 = 0 by decide, b0, thenR_ok, h2, thenR_ok, if_neg (by decide), show (sizeS true ((0 : Nat) : Int)).2 = 0 by decide, b0, thenR_ok,
    show (sizeS true ((0 : Nat) : Int)).1 = 1 by decide, show (sizeS false (((285 : Nat) : Int) - 257)).1 = 258 by decide, if_neg (by show ¬ out < 1 + 0; omega)]
  rfl
theorem rep_end (most m out : Nat) : tokStep (lens fixL) 288 (lens fun _ => 5) 32 most ⟨0, m + 7, out⟩ = .ok (none, ⟨0, m, out⟩) := by
  have h1 : symM (lens fixL) 288 ⟨0, m + 7, out⟩ = .ok (256, ⟨0, m, out⟩) := by
    have hr : rev 0 7 = 0 := by decide
    have := symM_code (σ := ⟨0, m + 7, out⟩) fix15 (s := 256) (by decide) (t := 7) rfl (by decide) (by show 7 ≤ m + 7; omega) (by rw [code_256, hr])
    rw [this]
    show Except.ok (256, (⟨0 / 2 ^ 7, m + 7 - 7, out⟩ : Sg)) = _
    rw [Nat.zero_div, Nat.add_sub_cancel]
  unfold tokStep
  rw [h1, thenR_ok]
  rfl
theorem rep_toks (most m : Nat) : ∀ (n f out : Nat) (S : List Tok), 1 ≤ out → n < f →
    tokM (lens fixL) 288 (lens fun _ => 5) 32 most f ⟨repN n, 13 * n + (m + 7), out⟩ S = if out + 258 * n ≤ most ∨ n = 0 then .ok (S ++ List.replicate n repT, ⟨0, m, out + 258 * n⟩) else .error 2 := by
  intro n
  induction n with
  | zero =>
    intro f out S ho hf
    obtain ⟨f, rfl⟩ : ∃ g, f = g + 1 := ⟨f - 1, by omega⟩
    rw [if_pos (.inr rfl)]
    show thenR (tokStep _ _ _ _ _ ⟨0, 13 * 0 + (m + 7), out⟩) _ = _
    rw [show 13 * 0 + (m + 7) = m + 7 by omega, rep_end, thenR_ok]
    simp
  | succ n ih =>
    intro f out S ho hf
    obtain ⟨f, rfl⟩ : ∃ g, f = g + 1 := ⟨f - 1, by omega⟩
    show thenR (tokStep _ _ _ _ _ ⟨repN (n + 1), 13 * (n + 1) + (m + 7), out⟩) _ = _
    rw [show 13 * (n + 1) + (m + 7) = (13 * n + (m + 7)) + 13 by omega, rep_step most n _ out ho]
    unfold growM
    by_cases hb : most < out + 258
    · rw [if_pos hb, if_neg (by omega)]
      rfl
    · rw [if_neg hb, thenR_ok]
      show tokM _ _ _ _ _ f ⟨repN n, 13 * n + (m + 7), out + 258⟩ (S ++ [repT]) = _
      rw [ih f (out + 258) _ (by omega) (by omega)]
      by_cases hc : out + 258 * (n + 1) ≤ most
      · rw [if_pos (by omega), if_pos (by omega), List.append_assoc, show [repT] ++ List.replicate n repT = List.replicate (n + 1) repT from rfl, show out + 258 + 258 * n = out + 258 * (n + 1) by omega]
      · by_cases hn : n = 0
        · omega
        · rw [if_neg (by omega), if_neg (by omega)]
/-- What such a block says. -/
def longT (n : Nat) : List Tok := ⟨0, 0, 0⟩ :: List.replicate n repT
theorem long_blocks (most n m f : Nat) (_hf : 13 * n + m < f) : blocksM most (f + 1) ⟨longV n, 11 + 13 * n + (m + 7), 0⟩ [] = if 1 + 258 * n ≤ most then .ok ([⟨1, [], longT n⟩], ⟨0, m, 1 + 258 * n⟩) else .error 2 := by
  have h1 : symM (lens fixL) 288 ⟨12 + 256 * repN n, 13 * n + (m + 7) + 8, 0⟩ = .ok (0, ⟨repN n, 13 * n + (m + 7), 0⟩) := by
    have hr : rev (12 + 256 * repN n) 8 = 48 := by
      rw [← rev_mod _ 8 8 (Nat.le_refl _)]
      have e : (12 + 256 * repN n) % 2 ^ 8 = 12 := by omega
      rw [e]
      decide
    have := symM_code (σ := ⟨12 + 256 * repN n, 13 * n + (m + 7) + 8, 0⟩) fix15 (s := 0) (by decide) (t := 8) rfl (by decide) (by show 8 ≤ 13 * n + (m + 7) + 8; omega) (by rw [code_0, hr])
    rw [this]
    have e : (12 + 256 * repN n) / 2 ^ 8 = repN n := by omega
    show Except.ok (0, (⟨(12 + 256 * repN n) / 2 ^ 8, 13 * n + (m + 7) + 8 - 8, 0⟩ : Sg)) = _
    rw [e, Nat.add_sub_cancel]
  have ht : tokensM fixL 288 (fun _ => 5) 32 most ⟨12 + 256 * repN n, 13 * n + (m + 7) + 8, 0⟩ = if 1 + 258 * n ≤ most then .ok (longT n, ⟨0, m, 1 + 258 * n⟩) else .error 2 := by
    rw [tokensM_fix]
    show thenR (tokStep _ _ _ _ _ _) _ = _
    have s1 : tokStep (lens fixL) 288 (lens fun _ => 5) 32 most ⟨12 + 256 * repN n, 13 * n + (m + 7) + 8, 0⟩ = thenR (growM most 1 ⟨repN n, 13 * n + (m + 7), 0⟩) fun _ σ => .ok (some ⟨0, 0, 0⟩, σ) := by
      unfold tokStep
      rw [h1, thenR_ok]
      rfl
    rw [s1]
    unfold growM
    by_cases hb : most < 1
    · rw [if_pos (by show most < 0 + 1; omega), if_neg (by omega)]
      rfl
    · rw [if_neg (by show ¬ most < 0 + 1; omega), thenR_ok]
      show tokM _ _ _ _ _ (13 * n + (m + 7) + 8) ⟨repN n, 13 * n + (m + 7), 1⟩ [⟨0, 0, 0⟩] = _
      rw [rep_toks most m n _ 1 _ (by decide) (by omega)]
      by_cases hc : 1 + 258 * n ≤ most
      · rw [if_pos (by omega), if_pos hc]
        rfl
      · have hn : n ≠ 0 := by omega
        rw [if_neg (by omega), if_neg hc]
  show thenR (blockM most _) _ = _
  unfold blockM
  have b1 : bitsM 1 ⟨longV n, 11 + 13 * n + (m + 7), 0⟩ = .ok (1, ⟨49 + 1024 * repN n, 13 * n + (m + 7) + 10, 0⟩) := by
    unfold bitsM longV
    rw [if_neg (by show ¬ 11 + 13 * n + (m + 7) < 1; omega)]
    show Except.ok ((99 + 2048 * repN n) % 2 ^ 1, (⟨(99 + 2048 * repN n) / 2 ^ 1, 11 + 13 * n + (m + 7) - 1, 0⟩ : Sg)) = _
    rw [show (99 + 2048 * repN n) % 2 ^ 1 = 1 by omega, show (99 + 2048 * repN n) / 2 ^ 1 = 49 + 1024 * repN n by omega, show 11 + 13 * n + (m + 7) - 1 = 13 * n + (m + 7) + 10 by omega]
  have b2 : bitsM 2 ⟨49 + 1024 * repN n, 13 * n + (m + 7) + 10, 0⟩ = .ok (1, ⟨12 + 256 * repN n, 13 * n + (m + 7) + 8, 0⟩) := by
    unfold bitsM
    rw [if_neg (by show ¬ 13 * n + (m + 7) + 10 < 2; omega)]
    show Except.ok ((49 + 1024 * repN n) % 2 ^ 2, (⟨(49 + 1024 * repN n) / 2 ^ 2, 13 * n + (m + 7) + 10 - 2, 0⟩ : Sg)) = _
    rw [show (49 + 1024 * repN n) % 2 ^ 2 = 1 by omega, show (49 + 1024 * repN n) / 2 ^ 2 = 12 + 256 * repN n by omega, show 13 * n + (m + 7) + 10 - 2 = 13 * n + (m + 7) + 8 by omega]
  rw [b1, thenR_ok, b2, thenR_ok, if_neg (by decide), if_pos rfl, ht]
  by_cases hc : 1 + 258 * n ≤ most
  · rw [if_pos hc, if_pos hc]
    rfl
  · rw [if_neg hc, if_neg hc]
    rfl
theorem bytesN_num (V k : Nat) (h : V < 2 ^ (8 * k)) : num ⟨(bytesN V k).toArray⟩ = V := by
  unfold num
  show leN (bytesN V k) = V
  rw [leN_bytesN, pow256, Nat.mod_eq_of_lt h]
/-- The bytes of the run. -/
def longS (n : Nat) : ByteArray := ⟨(bytesN (longV n) ((18 + 13 * n + 7) / 8)).toArray⟩
theorem longS_size (n : Nat) : (longS n).size = (18 + 13 * n + 7) / 8 := by
  show (bytesN (longV n) ((18 + 13 * n + 7) / 8)).toArray.size = _
  rw [List.size_toArray, bytesN_length]
theorem long_infl (n most : Nat) : inflR (longS n) most = if 1 + 258 * n ≤ most then .ok ([⟨1, [], longT n⟩], ⟨0, 8 * ((18 + 13 * n + 7) / 8) - (18 + 13 * n), 1 + 258 * n⟩) else .error 2 := by
  unfold inflR sg
  rw [longS_size]
  have hn : num (longS n) = longV n := bytesN_num _ _ (Nat.lt_of_lt_of_le (longV_lt n) (Nat.pow_le_pow_right (by decide) (by omega)))
  rw [hn, Nat.pow_zero, Nat.div_one]
  have := long_blocks most n (8 * ((18 + 13 * n + 7) / 8) - (18 + 13 * n)) (8 * ((18 + 13 * n + 7) / 8)) (by omega)
  rw [show 11 + 13 * n + (8 * ((18 + 13 * n + 7) / 8) - (18 + 13 * n) + 7) = 8 * ((18 + 13 * n + 7) / 8) - 0 by omega] at this
  exact this
theorem rep_zero (k : Nat) (o : List UInt8) (c : Nat) (ho : o = List.replicate (c + 1) 0) : rep 1 o k = List.replicate (c + 1 + k) 0 := by
  induction k with
  | zero => rw [ho]; rfl
  | succ k ih =>
    show rep 1 o k ++ [_] = _
    rw [ih]
    have e : (List.replicate (c + 1 + k) (0 : UInt8)).getD ((List.replicate (c + 1 + k) (0 : UInt8)).length - 1) 0 = 0 := by
      rw [List.getD_eq_getElem?_getD]
      simp
    rw [e]
    exact (List.replicate_succ' (n := c + 1 + k) (a := (0 : UInt8))).symm
theorem joinS_cons (o : List UInt8) (t : Tok) (S : List Tok) : joinS o (t :: S) = joinS (tout o t) S := rfl
theorem joinS_rep (n : Nat) : ∀ c, joinS (List.replicate (c + 1) 0) (List.replicate n repT) = List.replicate (c + 1 + 258 * n) 0 := by
  induction n with
  | zero => intro c; rfl
  | succ n ih =>
    intro c
    show joinS (List.replicate (c + 1) 0) (repT :: List.replicate n repT) = _
    rw [joinS_cons]
    have key : ∀ d l : Nat, d = 1 → l = 258 → rep d (List.replicate (c + 1) 0) l = List.replicate (c + 258 + 1) 0 := by
      intro d l hd hl
      rw [hd, rep_zero l (List.replicate (c + 1) 0) c rfl, hl]
    have e : tout (List.replicate (c + 1) 0) repT = List.replicate (c + 258 + 1) 0 := (if_neg (by decide)).trans (key _ _ rfl rfl)
    rw [e, ih]
    exact congrArg (fun k => List.replicate k (0 : UInt8)) (by omega)
theorem long_join (n : Nat) : joinL [] [⟨1, [], longT n⟩] = List.replicate (1 + 258 * n) 0 := by
  have e0 : joinL [] [⟨1, [], longT n⟩] = joinS [] (⟨0, 0, 0⟩ :: List.replicate n repT) := rfl
  have e : tout [] (⟨0, 0, 0⟩ : Tok) = List.replicate (0 + 1) 0 := rfl
  rw [e0, joinS_cons, e, joinS_rep]
end Go.Proofs.Ytjnglahjngiofaa
