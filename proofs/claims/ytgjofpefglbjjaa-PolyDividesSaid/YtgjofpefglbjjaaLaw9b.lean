/- The law PolyPrimes of layer 9, walked. Conditions: numbers of 64 bits. -/
import Derived.Test.YtgjofpefglbjjaaLaw9a
import Derived.Test.YtgjofpefglbjjaaGf3
namespace Go.Proofs.Ytgjofpefglbjjaa
open Go.RowKit
set_option maxRecDepth 100000

theorem prB_irr {m : Nat} (h : prB m = true) : Gf.Irr m := by
  unfold prB at h
  rw [Bool.and_eq_true] at h
  exact Gf.test_irr m (fit_len h.1).1 h.2
/-- The rest, its inverse, their product. -/
theorem inverse {p m D : Nat} (h : prB m = true) (hD : Gf.len m = D + 1) :
    (Gf.md p m = 0 ∧ Gf.md (Gf.cl (Gf.md p m) (Gf.pw (Gf.md p m) m (2 ^ D - 2))) m = 0) ∨ (Gf.md p m ≠ 0 ∧ Gf.md (Gf.cl (Gf.md p m) (Gf.pw (Gf.md p m) m (2 ^ D - 2))) m = 1) := by
  have hi := prB_irr h
  have hm0 := hi.ne
  have h2 := hi.1
  by_cases h0 : Gf.md p m = 0
  · left
    rw [h0, Gf.zero_cl, Gf.md_zero]
    exact ⟨rfl, rfl⟩
  · right
    refine ⟨h0, ?_⟩
    have hnd : ¬ Gf.Dvd m (Gf.md p m) := fun hd => by
      have := Gf.dvd_len hd h0
      have := (Gf.md_spec p hm0).2
      omega
    have hf := Gf.fermat m (Gf.md p m) D hi hD hnd
    have hp2 : 2 ≤ 2 ^ D := by
      have := Nat.pow_le_pow_right (n := 2) (i := 1) (j := D) (by decide) (by omega)
      simpa using this
    rw [show 2 ^ D - 1 = 2 ^ D - 2 + 1 by omega] at hf
    rw [Gf.cl_comm]
    exact hf

theorem polyPrimes_no (p m : Nat) (hm : m < 18446744073709551616) (hf : prB m = false) (w : World) :
    Calls Try.prog 7 #[.int .u64 (p : Int), .int .u64 (m : Int)] w fun e w' => e = .returned (.bool true) ∧ w = w' := by
  have C1 := fun W => prime_any m hm W
  rw [hf] at C1
  have C := Lib.hid C1
  clear C1 hf
  go_enter Try.func7, Try.ntmps7
  go_wp2_with (first
    | (go_at_call 26; refine (C.out _).mono ?_; rintro e w' ⟨rfl, rfl⟩)
    | (go_at_call 15; refine (awake9_any _).mono ?_; rintro e w' ⟨rfl, rfl⟩))
  go_ret
  exact ⟨rfl, rfl⟩

set_option maxHeartbeats 2000000 in
theorem polyPrimes_yes (p m : Nat) (hp : p < 18446744073709551616) (hm : m < 18446744073709551616) (hf : prB m = true) (w : World) :
    Calls Try.prog 7 #[.int .u64 (p : Int), .int .u64 (m : Int)] w fun e w' => e = .returned (.bool true) ∧ w = w' := by
  have hfit : fitB m = true := by unfold prB at hf; rw [Bool.and_eq_true] at hf; exact hf.1
  obtain ⟨hf1, hf2, hm0⟩ := fit_len hfit
  obtain ⟨D, hD⟩ : ∃ D : Nat, Gf.len m = D + 1 := ⟨Gf.len m - 1, by omega⟩
  have hinv := inverse (p := p) hf hD
  have c0 := fun W => prime_any m hm W
  rw [hf] at c0
  have hpow : 2 ≤ 2 ^ D ∧ 2 ^ D ≤ 4611686018427387904 := by
    have h1 := Nat.pow_le_pow_right (n := 2) (i := 1) (j := D) (by decide) (by omega)
    have h2 := Nat.pow_le_pow_right (n := 2) (i := D) (j := 62) (by decide) (by omega)
    simp at h1 h2
    exact ⟨h1, h2⟩
  have sm : ∀ z, Gf.md z m < 18446744073709551616 := fun z => lt64 (Gf.md_spec z hm0).2 hf2
  have sp : ∀ z n, Gf.pw z m n < 18446744073709551616 := fun z n => lt64 (Gf.pw_small z m n hm0) hf2
  have h1 : Gf.md 1 m = 1 := Gf.md_stop (by rw [Gf.len1]; omega)
  have c1 := fun W => mod_yes p m hp hm hfit W
  have c2 := fun W => degree_any m hm (D : Int) (by omega) W
  have c3 := fun W => power_yes (Gf.md p m) (2 ^ D - 2) m (sm _) (by omega) hm hfit W
  have c4 := fun W => times_yes (Gf.md p m) (Gf.pw (Gf.md p m) m (2 ^ D - 2)) m (sm _) (sp _ _) hm hfit W
  have c5 := fun W => mod_yes 1 m (by decide) hm hfit W
  rw [h1] at c5
  obtain ⟨S, HS⟩ : ∃ S, Hid (2 ^ D - 2 = S) := ⟨2 ^ D - 2, Lib.hid (Eq.refl _)⟩
  obtain ⟨T, HT⟩ : ∃ S, Hid (2 ^ D = S) := ⟨2 ^ D, Lib.hid (Eq.refl _)⟩
  rw [HT.out] at hpow
  have hST : S = T - 2 := by rw [← HS.out, ← HT.out]
  rw [HS.out] at c3 c4 hinv
  have hsub : (T : Int) - 2 = (S : Int) := by omega
  have hw : IntKind.u64.wrap ((2 : Int) ^ D) = (T : Int) := by
    have : (2 : Int) ^ D = ((2 ^ D : Nat) : Int) := by simp
    rw [this, HT.out, IntKind.wrap_u64]; omega
  have hpo : (2 : Int) ^ D = (T : Int) := by
    have : (2 : Int) ^ D = ((2 ^ D : Nat) : Int) := by simp
    rw [this, HT.out]
  have hDl : D ≤ 62 := by omega
  have hT1 := hpow.1
  have hT2 := hpow.2
  generalize Gf.md (Gf.cl (Gf.md p m) (Gf.pw (Gf.md p m) m S)) m = O at *
  generalize Gf.pw (Gf.md p m) m S = I at *
  generalize Gf.md p m = R at *
  have C0 := Lib.hid c0
  have C1 := Lib.hid c1
  have C2 := Lib.hid c2
  have C3 := Lib.hid c3
  have C4 := Lib.hid c4
  have C5 := Lib.hid c5
  clear c0 c1 c2 c3 c4 c5 hf hfit hf1 hf2 hm0 hD h1 sm sp HS HT hST hpow
  have hRO : (R = 0 ∧ O = 0) ∨ (((R : Int) == 0) = false ∧ ((R : Int) != 0) = true ∧ O = 1) := by
    rcases hinv with h | h
    · exact .inl h
    · exact .inr ⟨by simp; omega, by simp; omega, h.2⟩
  clear hinv
  rcases hRO with ⟨rfl, rfl⟩ | ⟨hR1, hR2, rfl⟩
  all_goals
    go_enter Try.func7, Try.ntmps7
    go_wp2_with fail
    refine (C0.out _).mono ?_; rintro e w' ⟨rfl, rfl⟩
    go_wp2_with fail
    refine (C1.out _).mono ?_; rintro e w' ⟨rfl, rfl⟩
    go_wp2_with fail
    refine (C2.out _).mono ?_; rintro e w' ⟨rfl, rfl⟩
    go_wp2_with fail
    refine (C3.out _).mono ?_; rintro e w' ⟨rfl, rfl⟩
    go_wp2_with fail
    refine (C4.out _).mono ?_; rintro e w' ⟨rfl, rfl⟩
    go_wp2_with fail
    refine (C5.out _).mono ?_; rintro e w' ⟨rfl, rfl⟩
    go_wp2_with fail
    refine (awake9_any _).mono ?_; rintro e w' ⟨rfl, rfl⟩
    go_wp2_with fail
    go_ret
    exact ⟨rfl, rfl⟩

theorem polyPrimes_any (p m : Nat) (hp : p < 18446744073709551616) (hm : m < 18446744073709551616) (w : World) :
    Calls Try.prog 7 #[.int .u64 (p : Int), .int .u64 (m : Int)] w fun e w' => e = .returned (.bool true) ∧ Below w.heap.size w w' := by
  cases hf : prB m
  · exact (polyPrimes_no p m hm hf w).mono fun _ _ ⟨he, hw⟩ => ⟨he, by rw [← hw]; exact Below.refl _ _⟩
  · exact (polyPrimes_yes p m hp hm hf w).mono fun _ _ ⟨he, hw⟩ => ⟨he, by rw [← hw]; exact Below.refl _ _⟩
end Go.Proofs.Ytgjofpefglbjjaa
