/- inflate's reader: bits and symbols as the plain one says; what stays. Conditions: texts of at most a hundred thousand bytes. -/
import Derived.Test.YtjnglahjngiofaaJabmhmi
import Derived.Test.YtjnglahjngiofaaLaw5aJ
namespace Go.Proofs.Ytjnglahjngiofaa
open Go.RowKit
set_option maxRecDepth 100000

theorem bits_m (R P : Nat) (s : ByteArray) (p z most k : Nat) (hk : k ≤ 16) (hs : s.size ≤ 100000) (hp : p ≤ 8 * s.size) (w : World) (hR : RdAt w R P s p z most 0) :
    Calls Try.prog 47 #[.pointer (some ⟨R, 0, none⟩), .int .i64 (k : Int)] w fun r w' => ∃ v : Nat, v < 2 ^ k ∧ v < 65536 ∧ r = .returned (.int .i64 (v : Int)) ∧ Rch R P w w' ∧
      ((bitsM k (sg s p z) = .error 6 ∧ RdAt w' R P s (p + k) z most 6 ∧ (8 * s.size - p = 0 → v = 0) ∧ v < 2 ^ (8 * s.size - p)) ∨ (bitsM k (sg s p z) = .ok (v, sg s (p + k) z) ∧ p + k ≤ 8 * s.size ∧ RdAt w' R P s (p + k) z most 0)) := by
  refine (bits_any R P s p z most 0 k hk hs (by omega) w hR).mono ?_
  rintro r w' ⟨rfl, hR', hC⟩
  refine ⟨bitsAt s p k, Nat.mod_lt _ (Nat.two_pow_pos k), bitsAt_lt s p k hk, rfl, hC, ?_⟩
  unfold bitsE at hR'
  by_cases h : 8 * s.size < p + k
  · rw [if_pos h] at hR'
    have hlt : bitsAt s p k < 2 ^ (8 * s.size - p) := by
      unfold bitsAt
      have h1 : num s / 2 ^ p < 2 ^ (8 * s.size - p) := by
        have h2 : num s < 2 ^ (8 * s.size) := by
          have := leN_lt s.data.toList
          rw [Nat.pow_mul]
          unfold num
          simpa using this
        rw [Nat.div_lt_iff_lt_mul (Nat.two_pow_pos p), ← Nat.pow_add, show 8 * s.size - p + p = 8 * s.size by omega]
        exact h2
      exact Nat.lt_of_le_of_lt (Nat.mod_le _ _) h1
    refine .inl ⟨bits_sg_short s p z k hp h, hR', fun h0 => ?_, hlt⟩
    rw [h0] at hlt
    have : (2 : Nat) ^ 0 = 1 := rfl
    omega
  · rw [if_neg h] at hR'
    exact .inr ⟨bits_sg s p z k (by omega), by omega, hR'⟩

theorem symbol_m (L : Nat → Nat) (n : Nat) (hL : ∀ i, i < n → L i ≤ 15) (hn : n ≤ 400) (T g N cap : Nat) (B : Nat → Nat → Int) (pv pn : Nat → Nat) (hG : Grown (bitsF L n) L (InAll L n) B N pv pn)
    (R P : Nat) (s : ByteArray) (p z most : Nat) (hs : s.size ≤ 100000) (hp : p ≤ 8 * s.size) (hTP : T ≠ P) (hgP : g ≠ P) (w : World) (hA : TreeAt w T g N cap B) (hR : RdAt w R P s p z most 0) :
    Calls Try.prog 74 #[.pointer (some ⟨R, 0, none⟩), .pointer (some ⟨T, 0, none⟩)] w fun r w' => ∃ (v p' : Nat), r = .returned (.int .i64 (v : Int)) ∧ Rch R P w w' ∧ p < p' ∧ p' ≤ p + 16 ∧
      ((∃ e, e ≠ 0 ∧ symM L n (sg s p z) = .error e ∧ RdAt w' R P s p' z most e ∧ v = 0) ∨ (symM L n (sg s p z) = .ok (v, sg s p' z) ∧ p' ≤ 8 * s.size ∧ v < n ∧ RdAt w' R P s p' z most 0)) := by
  refine (symbol_ok L n (fun i h => hL i h.1) hn T g N cap B pv pn hG R P s p z most hs (by omega) hTP hgP w hA hR).mono ?_
  rintro r w' ⟨sym, err, taken, rfl, hN, ht, hR', hC⟩
  have h1 := hN.1
  have hN2 := hN.rest hp
  have hnr := nextR_of L n hL hN2
  have hsy : symM L n (sg s p z) = if err = 0 then .ok (sym, sg s (p + taken) z) else .error err := by
    unfold symM
    have e1 : (sg s p z).X = num s / 2 ^ p := rfl
    have e2 : (sg s p z).n = 8 * s.size - p := rfl
    rw [e1, e2, hnr]
    by_cases h0 : err = 0
    · rw [if_pos h0, if_pos h0]
      unfold sg
      have e3 : num s / 2 ^ p / 2 ^ taken = num s / 2 ^ (p + taken) := by rw [Nat.div_div_eq_div_mul, ← Nat.pow_add]
      have e4 : 8 * s.size - p - taken = 8 * s.size - (p + taken) := by omega
      simp only [e3, e4]
    · rw [if_neg h0, if_neg h0]
  refine ⟨sym, p + taken, rfl, hC, by omega, by omega, ?_⟩
  by_cases h0 : err = 0
  · subst h0
    rw [if_pos rfl] at hsy
    rcases hN.2.2 with ⟨_, h, _⟩ | ⟨_, _, h, _⟩ | ⟨h2, h3, _⟩
    · cases h
    · cases h
    · exact .inr ⟨hsy, h2, h3.1, hR'⟩
  · rw [if_neg h0] at hsy
    refine .inl ⟨err, h0, hsy, hR', ?_⟩
    rcases hN.2.2 with ⟨_, _, h⟩ | ⟨_, _, _, h⟩ | ⟨_, _, _, _, h⟩
    · exact h
    · exact h
    · exact absurd h h0

section
variable {R P : Nat} {w w' : World}
theorem Rch.then_below {w0 : World} {B : Nat} (h : Rch R P w0 w) (hb : Below B w w') (hB : w0.heap.size ≤ B) : Rch R P w0 w' :=
  ⟨hb.os.trans h.1, hb.tape.trans h.2.1, hb.output.trans h.2.2.1, Nat.le_trans h.2.2.2.1 hb.size, fun g hg h1 h2 => (hb.block g (by omega)).trans (h.2.2.2.2 g hg h1 h2)⟩
theorem Rch.cell (h : Rch R P w w') {b off : Nat} (hb : b < w.heap.size) (h1 : b ≠ R) (h2 : b ≠ P) : w'.cell? ⟨b, off, none⟩ = w.cell? ⟨b, off, none⟩ := by
  unfold World.cell?
  rw [h.2.2.2.2 b hb h1 h2]
theorem TreeAt.rch {T g N cap : Nat} {B : Nat → Nat → Int} (h : TreeAt w T g N cap B) (hc : Rch R P w w') (h1 : T ≠ R) (h2 : T ≠ P) (h3 : g ≠ R) (h4 : g ≠ P) : TreeAt w' T g N cap B :=
  ⟨hc.blk h.1 h1 h2, Nat.lt_of_lt_of_le h.2.1 hc.2.2.2.1, fun a b ha hb => (hc.cell h.2.1 h3 h4).trans (h.2.2 a b ha hb)⟩
theorem ownsRow_rch {base e size n : Nat} {v : Value} {xs : List Value} (h : w.ownsRow base e size v n xs) (hc : Rch R P w w') (h1 : R < base) (h2 : P < base) : w'.ownsRow base e size v n xs := by
  refine ⟨h.1, ?_⟩
  rcases h.2 with h | ⟨g, cap, cur, a1, a2, a3, a4⟩
  · exact .inl h
  · refine .inr ⟨g, cap, cur, a1, a2, ?_, a4⟩
    have hlt : g < w.heap.size := by
      rcases Nat.lt_or_ge g w.heap.size with h | h
      · exact h
      · rw [Array.getElem?_eq_none h] at a3; cases a3
    exact (hc.2.2.2.2 g hlt (by omega) (by omega)).trans a3
theorem OwnK.rch {base e : Nat} {v : Value} {S : List Tok} (h : OwnK e w base v S) (hc : Rch R P w w') (h1 : R < base) (h2 : P < base) : OwnK e w' base v S := ownsRow_rch h hc h1 h2
theorem IRow.rch {a : Option Addr} {n : Nat} {m : Nat → Int} (h : IRow w a n m) (hc : Rch R P w w') (h1 : ∀ b off sp, a = some ⟨b, off, sp⟩ → b ≠ R ∧ b ≠ P) : IRow w' a n m := by
  rcases h with h | ⟨b, off, e, hb, hcell⟩
  · exact .inl h
  · obtain ⟨h2, h3⟩ := h1 b off none e
    exact .inr ⟨b, off, e, Nat.lt_of_lt_of_le hb hc.2.2.2.1, fun i hi => (hc.cell hb h2 h3).trans (hcell i hi)⟩
end
theorem size_near_b : ∀ i : Nat, i ≤ 28 → 3 ≤ (sizeS false (i : Int)).1 ∧ (sizeS false (i : Int)).1 ≤ 258 ∧ (sizeS false (i : Int)).2 ≤ 5 := by decide
theorem size_far_b : ∀ i : Nat, i ≤ 29 → 1 ≤ (sizeS true (i : Int)).1 ∧ (sizeS true (i : Int)).1 ≤ 24577 ∧ (sizeS true (i : Int)).2 ≤ 13 := by decide
theorem size_near_0 (i : Int) (h : 28 < i) : sizeS false i = (0, 0) := by unfold sizeS; rw [if_neg (by decide), if_pos (.inr h)]
theorem size_far_0 (i : Int) (h : 29 < i) : sizeS true i = (0, 0) := by unfold sizeS; rw [if_pos rfl, if_pos (.inr h)]
end Go.Proofs.Ytjnglahjngiofaa
