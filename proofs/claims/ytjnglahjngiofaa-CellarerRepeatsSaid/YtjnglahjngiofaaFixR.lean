/- Symbols that are written are read; the fixed codes; two streams that are read. Plain. Conditions: none. -/
import Derived.Test.YtjnglahjngiofaaInfWays
namespace Go.Proofs.Ytjnglahjngiofaa
open Go.RowKit
set_option maxRecDepth 100000

theorem rev_div (X : Nat) (d : Nat) : ∀ m, rev X (m + d) / 2 ^ d = rev X m := by
  induction d with
  | zero => intro m; simp
  | succ d ih =>
    intro m
    have e : rev X (m + (d + 1)) = 2 * rev X (m + d) + X / 2 ^ (m + d) % 2 := rfl
    have e2 : (2 : Nat) ^ (d + 1) = 2 * 2 ^ d := by rw [Nat.pow_succ, Nat.mul_comm]
    rw [e, e2, ← Nat.div_div_eq_div_mul, show (2 * rev X (m + d) + X / 2 ^ (m + d) % 2) / 2 = rev X (m + d) by omega]
    exact ih m
/-- What is the code of a symbol is read as it. -/
theorem next_code {F L : Nat → Nat} {In : Nat → Prop} {X nb s t : Nat} (hs : In s) (ht : L s = t) (h1 : 1 ≤ t) (hn : t ≤ nb) (hF : F s = rev X t) : NextOut F L In X nb 0 s 0 t := by
  refine ⟨h1, fun m a b => ⟨by omega, s, hs, ⟨by omega, ?_⟩, by omega⟩, .inr (.inr ⟨by omega, hs, ht, hF, rfl⟩)⟩
  obtain ⟨d, rfl⟩ : ∃ d, t = m + d := ⟨t - m, by omega⟩
  rw [hF, ht, show m + d - m = d by omega, rev_div]
theorem symM_code {L : Nat → Nat} {c : Nat} (h15 : ∀ i, i < c → L i ≤ 15) {σ : Sg} {s t : Nat} (hs : s < c) (ht : L s = t) (h1 : 1 ≤ t) (hn : t ≤ σ.n) (hF : bitsF L c s = rev σ.X t) : symM L c σ = .ok (s, ⟨σ.X / 2 ^ t, σ.n - t, σ.out⟩) :=
  symM_ok h15 (next_code ⟨hs, by omega⟩ ht h1 hn hF)
theorem fix15 : ∀ i, i < 288 → lens fixL i ≤ 15 := lens_15 _ _ fixL_15
theorem five15 : ∀ i, i < 32 → lens (fun _ => 5) i ≤ 15 := lens_15 _ _ fun _ => by decide
theorem fit_fix (σ : Sg) : fitM fixL 288 σ = .ok ((), σ) := by
  unfold fitM checkM
  rw [if_pos (by decide +kernel)]
theorem fit_five (σ : Sg) : fitM (fun _ => 5) 32 σ = .ok ((), σ) := by
  unfold fitM checkM
  rw [if_pos (by decide +kernel)]
theorem tokensM_fix (most : Nat) (σ : Sg) : tokensM fixL 288 (fun _ => 5) 32 most σ = tokM (lens fixL) 288 (lens fun _ => 5) 32 most (σ.n + 1) σ [] := by
  unfold tokensM
  rw [fit_fix, thenR_ok, fit_five, thenR_ok]
theorem code_97 : bitsF (lens fixL) 288 97 = 145 := by decide +kernel
theorem code_0 : bitsF (lens fixL) 288 0 = 48 := by decide +kernel
theorem code_256 : bitsF (lens fixL) 288 256 = 0 := by decide +kernel
theorem code_285 : bitsF (lens fixL) 288 285 = 197 := by decide +kernel
theorem code_d0 : bitsF (lens fun _ => 5) 32 0 = 0 := by decide +kernel

theorem infl_a : inflR ⟨#[75, 4, 0]⟩ 9 = .ok ([⟨1, [], [⟨97, 0, 0⟩]⟩], ⟨0, 6, 1⟩) := by
  have hn : num ⟨#[75, 4, 0]⟩ = 1099 := by decide +kernel
  have e0 : sg ⟨#[75, 4, 0]⟩ 0 0 = ⟨1099, 24, 0⟩ := by unfold sg; rw [hn]; rfl
  have h1 : symM (lens fixL) 288 ⟨137, 21, 0⟩ = .ok (97, ⟨0, 13, 0⟩) := symM_code fix15 (by decide) (t := 8) rfl (by decide) (by decide) (by rw [code_97]; decide)
  have h2 : symM (lens fixL) 288 ⟨0, 13, 1⟩ = .ok (256, ⟨0, 6, 1⟩) := symM_code fix15 (by decide) (t := 7) rfl (by decide) (by decide) (by rw [code_256]; decide)
  have s1 : tokStep (lens fixL) 288 (lens fun _ => 5) 32 9 ⟨137, 21, 0⟩ = .ok (some ⟨97, 0, 0⟩, ⟨0, 13, 1⟩) := by
    unfold tokStep
    rw [h1, thenR_ok]
    rfl
  have s2 : tokStep (lens fixL) 288 (lens fun _ => 5) 32 9 ⟨0, 13, 1⟩ = .ok (none, ⟨0, 6, 1⟩) := by
    unfold tokStep
    rw [h2, thenR_ok]
    rfl
  have ht : tokensM fixL 288 (fun _ => 5) 32 9 ⟨137, 21, 0⟩ = .ok ([⟨97, 0, 0⟩], ⟨0, 6, 1⟩) := by
    rw [tokensM_fix]
    show tokM _ _ _ _ _ (20 + 1 + 1) _ _ = _
    show thenR (tokStep _ _ _ _ _ _) _ = _
    rw [s1, thenR_ok]
    show thenR (tokStep _ _ _ _ _ _) _ = _
    rw [s2, thenR_ok]
    rfl
  have hb : blockM 9 ⟨1099, 24, 0⟩ = .ok ((1, ⟨1, [], [⟨97, 0, 0⟩]⟩), ⟨0, 6, 1⟩) := by
    unfold blockM
    rw [show bitsM 1 ⟨1099, 24, 0⟩ = .ok (1, ⟨549, 23, 0⟩) from rfl, thenR_ok, show bitsM 2 ⟨549, 23, 0⟩ = .ok (1, ⟨137, 21, 0⟩) from rfl, thenR_ok, if_neg (by decide), if_pos rfl, ht]
    rfl
  unfold inflR
  rw [e0]
  show thenR (blockM 9 _) _ = _
  rw [hb]
  rfl
theorem infl_ab : inflR ⟨#[1, 2, 0, 253, 255, 97, 98]⟩ 9 = .ok ([⟨0, [97, 98], []⟩], ⟨0, 0, 2⟩) := by
  have hn : num ⟨#[1, 2, 0, 253, 255, 97, 98]⟩ = 27692299806835201 := by decide +kernel
  have e0 : sg ⟨#[1, 2, 0, 253, 255, 97, 98]⟩ 0 0 = ⟨27692299806835201, 56, 0⟩ := by unfold sg; rw [hn]; rfl
  unfold inflR
  rw [e0]
  rfl
end Go.Proofs.Ytjnglahjngiofaa
