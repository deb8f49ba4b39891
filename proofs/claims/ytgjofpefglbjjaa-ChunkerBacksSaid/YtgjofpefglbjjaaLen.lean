/- bits.Len64 in the words of this claim's polynomials. Conditions: none. -/
import Derived.Test.YtgjofpefglbjjaaBase
import Derived.Test.YtgjofpefglbjjaaGf
import Derived.Test.YtgjofpefglbjjaaLen0
namespace Go.Proofs.Ytgjofpefglbjjaa
open Go.RowKit

theorem bitLen_len (f x : Nat) (h : x < 2 ^ f) : Lib.bitLenAux f x = Gf.len x := by
  induction f generalizing x with
  | zero =>
    have : x = 0 := by simpa using h
    subst this
    rw [Gf.len_zero]; rfl
  | succ f ih =>
    unfold Lib.bitLenAux
    by_cases h0 : x = 0
    · subst h0; rw [if_pos rfl, Gf.len_zero]
    · rw [if_neg h0, ih (x / 2) (by rw [Nat.pow_succ] at h; omega), Gf.len_pos h0, Nat.add_comm]

theorem len64_any (p : Nat) (hp : p < 18446744073709551616) (w : World) :
    Calls Try.prog 45 #[.int .u64 (p : Int)] w fun e w' => e = .returned (.int .i64 (Gf.len p : Int)) ∧ w = w' :=
  (bits_Len64 p w (by omega) (by omega)).mono fun _ _ ⟨he, hw⟩ => ⟨by rw [he, Int.toNat_natCast, show Lib.bitLen p = Gf.len p from bitLen_len 64 p (by simpa using hp)], hw.symm⟩
end Go.Proofs.Ytgjofpefglbjjaa
