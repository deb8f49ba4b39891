/- digest.root. Conditions: small numbers. -/
import Derived.Test.YtbccljpbnbobmaaRotM
namespace Go.Proofs.Ytbccljpbnbobmaa
open Go.RowKit
set_option maxRecDepth 100000

def rootHi (cube : Bool) (y : Nat) : Nat := if cube then y * y / 18446744073709551616 * y + y * y % 18446744073709551616 * y / 18446744073709551616 else y * y / 18446744073709551616
def rootTop (p : Nat) (cube : Bool) : Nat := if cube then p * 4294967296 else p
def rootT (p : Nat) (cube : Bool) (y : Nat) : Bool := decide (rootHi cube y < rootTop p cube) || (decide (rootHi cube y = rootTop p cube) && (!cube && decide (y * y % 18446744073709551616 = 0)))
def rootN (p : Nat) (cube : Bool) : Nat → Nat → Nat
  | 0, x => x
  | k + 1, x => rootN p cube k (if rootT p cube (x ||| 2 ^ k) then x ||| 2 ^ k else x)
def pwr : Nat → Nat
  | 0 => 0
  | m + 1 => 2 ^ m
theorem pwr_half (m : Nat) : pwr (m + 1) / 2 = pwr m := by
  match m with
  | 0 => rfl
  | m + 1 => simp only [pwr, Nat.pow_succ]; omega
theorem root_small (y : Nat) (hy : y < 137438953472) : y * y / 18446744073709551616 ≤ 1024 ∧ y * y / 18446744073709551616 * y + y * y % 18446744073709551616 * y / 18446744073709551616 < 281474976710656 := by
  have h1 : y * y ≤ 137438953472 * 137438953472 := Nat.mul_le_mul (by omega) (by omega)
  have h2 : y * y / 18446744073709551616 ≤ 1024 := by omega
  have h3 : y * y / 18446744073709551616 * y ≤ 1024 * 137438953472 := Nat.mul_le_mul h2 (by omega)
  have h4 : y * y % 18446744073709551616 * y ≤ 18446744073709551616 * 137438953472 := Nat.mul_le_mul (by omega) (by omega)
  refine ⟨h2, ?_⟩
  generalize y * y / 18446744073709551616 * y = a at *
  generalize y * y % 18446744073709551616 * y = b at *
  omega

theorem root_any (p : Nat) (hp : p ≤ 1000) (cube : Bool) (w : World) :
    Calls Try.prog 44 #[.int .u64 (p : Int), .bool cube] w fun e w' => e = .returned (.int .u32 ((rootN p cube 37 0 % 4294967296 : Nat) : Int)) ∧ w = w' := by
  obtain ⟨RES, HRES⟩ : ∃ r, Hid (rootN p cube 37 0 = r) := ⟨_, Lib.hid (Eq.refl _)⟩
  rw [HRES.out]
  have HM := Lib.hid (fun x y hx hy W => mul64_any x y hx hy W)
  go_enter Try.func44, Try.ntmps44
  go_wp2_with fail
  go_loop [5, 6] (fun x_ b_ => ∃ k x : Nat, k ≤ 37 ∧ x < 137438953472 ∧ b_ = .int .u64 (pwr k : Int) ∧ x_ = .int .u64 (x : Int) ∧ Hid (rootN p cube k x = RES))
    (fun _ b => (intOf b).toNat)
  case atStart => exact ⟨37, 0, by omega, by omega, rfl, rfl, HRES⟩
  case round =>
    clear HRES
    obtain ⟨k, x, hk, hx, rfl, rfl, HR⟩ := hrel
    rcases k with _ | k
    · have e : pwr 0 = 0 := rfl
      rw [e]
      obtain rfl : x = RES := HR.out
      go_wp2_with fail
      go_ret
      exact ⟨by simp, rfl⟩
    · have hb : pwr (k + 1) < 137438953472 ∧ 0 < pwr (k + 1) := ⟨Nat.pow_lt_pow_right (a := 2) (m := k) (n := 37) (by decide) (by omega), Nat.two_pow_pos k⟩
      have hy : x ||| pwr (k + 1) < 137438953472 := Nat.or_lt_two_pow (n := 37) (by omega) (by omega)
      have ho := u64_or_nat x (pwr (k + 1)) (by omega) (by omega)
      have HRn : Hid (rootN p cube k (if rootT p cube (x ||| pwr (k + 1)) then x ||| pwr (k + 1) else x) = RES) := HR.out
      have Hh := Lib.hid (pwr_half k)
      generalize pwr (k + 1) = b at *
      obtain ⟨b2, hb2⟩ : ∃ b2, b2 = pwr k := ⟨_, rfl⟩
      obtain ⟨y, Hy⟩ : ∃ y, Hid (x ||| b = y) := ⟨_, Lib.hid (Eq.refl _)⟩
      rw [Hy.out] at ho hy HRn
      have C1 := HM.out y y (by omega) (by omega)
      have hsm := root_small y hy
      have hmod : y * y % 18446744073709551616 < 18446744073709551616 := Nat.mod_lt _ (by decide)
      have C2 := HM.out (y * y % 18446744073709551616) y hmod (by omega)
      have hRT : rootT p cube y = (decide (rootHi cube y < rootTop p cube) || (decide (rootHi cube y = rootTop p cube) && (!cube && decide (y * y % 18446744073709551616 = 0)))) := rfl
      have hHi : rootHi cube y = if cube then y * y / 18446744073709551616 * y + y * y % 18446744073709551616 * y / 18446744073709551616 else y * y / 18446744073709551616 := rfl
      have hTop : rootTop p cube = if cube then p * 4294967296 else p := rfl
      generalize y * y / 18446744073709551616 = hi at *
      generalize y * y % 18446744073709551616 = lo at *
      generalize lo * y / 18446744073709551616 = ov at *
      generalize lo * y % 18446744073709551616 = ovl at *
      obtain ⟨hy3, Hhy3⟩ : ∃ q, Hid (hi * y = q) := ⟨_, Lib.hid (Eq.refl _)⟩
      have hmulI : (hi : Int) * (y : Int) = (hy3 : Int) := by rw [← Hhy3.out]; omega
      rw [Hhy3.out] at hsm hHi
      have H1 := Lib.hid C1
      have H2 := Lib.hid C2
      have HT := Lib.hid hRT
      clear C1 C2 hRT HM HR
      have HnT : rootT p cube y = true → Hid (rootN p cube k y = RES) := fun hc => by rw [hc] at HRn; exact HRn
      have HnF : rootT p cube y = false → Hid (rootN p cube k x = RES) := fun hc => by rw [hc] at HRn; exact HRn
      have hwy : IntKind.u64.wrap (hy3 : Int) = (hy3 : Int) := by rw [IntKind.wrap_u64]; omega
      cases cube with
      | true =>
        simp only [if_true] at hHi hTop
        have h2 := HT.out
        rw [hHi, hTop] at h2
        obtain ⟨hs, hhs⟩ : ∃ q, q = hy3 + ov := ⟨_, rfl⟩
        have hw1 : IntKind.u64.wrap ((hy3 : Int) + (ov : Int)) = (hs : Int) := by rw [IntKind.wrap_u64]; omega
        rw [← hhs] at h2 hsm hHi
        have hsI : (hs : Int) = (hy3 : Int) + (ov : Int) := by omega
        obtain ⟨T, HTp⟩ : ∃ q, Hid (p * 4294967296 = q) := ⟨_, Lib.hid (Eq.refl _)⟩
        have hTI : (p : Int) * 4294967296 = (T : Int) := by rw [← HTp.out]; omega
        have hTb : T < 10000000000000 := by rw [← HTp.out]; omega
        rw [HTp.out] at h2
        by_cases hlt : hs < T
        · have hT : rootT p true y = true := by rw [h2]; simp [hlt]
          have HN := HnT hT
          clear h2 HT HnT HnF HRn hT
          have HS1 := Lib.hid hsI
          have HS2 := Lib.hid hhs
          clear hsI hhs hHi hTop
          go_wp2_with fail
          refine (H1.out _).mono ?_
          rintro e w1 ⟨rfl, rfl⟩
          go_wp2_with fail
          refine (H2.out _).mono ?_
          rintro e w1 ⟨rfl, rfl⟩
          go_wp2_with fail
          go_round
          case rel => exact ⟨k, y, by omega, hy, by rw [← Hh.out]; congr 1, rfl, HN⟩
          case measure => simp [intOf]; omega
        · have hT : rootT p true y = false := by rw [h2]; simp [hlt]
          have HN := HnF hT
          clear h2 HT HnT HnF HRn hT
          have HS1 := Lib.hid hsI
          have HS2 := Lib.hid hhs
          clear hsI hhs hHi hTop
          go_wp2_with fail
          refine (H1.out _).mono ?_
          rintro e w1 ⟨rfl, rfl⟩
          go_wp2_with fail
          refine (H2.out _).mono ?_
          rintro e w1 ⟨rfl, rfl⟩
          go_wp2_with fail
          all_goals
            go_round
            case rel => exact ⟨k, x, by omega, hx, by rw [← Hh.out]; congr 1, rfl, HN⟩
            case measure => simp [intOf]; omega
      | false =>
        simp only [Bool.false_eq_true, if_false] at hHi hTop
        have h2 := HT.out
        rw [hHi, hTop] at h2
        by_cases hlt : hi < p
        · have hT : rootT p false y = true := by rw [h2]; simp [hlt]
          have HN := HnT hT
          clear h2 HT HnT HnF HRn hT
          clear hHi hTop
          go_wp2_with fail
          refine (H1.out _).mono ?_
          rintro e w1 ⟨rfl, rfl⟩
          go_wp2_with fail
          go_round
          case rel => exact ⟨k, y, by omega, hy, by rw [← Hh.out]; congr 1, rfl, HN⟩
          case measure => simp [intOf]; omega
        · by_cases heq : hi = p
          · by_cases h0 : lo = 0
            · have hT : rootT p false y = true := by rw [h2]; simp [heq, h0]
              subst heq
              subst h0
              have HN := HnT hT
              clear h2 HT HnT HnF HRn hT
              clear hHi hTop
              go_wp2_with fail
              refine (H1.out _).mono ?_
              rintro e w1 ⟨rfl, rfl⟩
              go_wp2_with fail
              go_round
              case rel => exact ⟨k, y, by omega, hy, by rw [← Hh.out]; congr 1, rfl, HN⟩
              case measure => simp [intOf]; omega
            · have hT : rootT p false y = false := by rw [h2]; simp [heq, h0]
              subst heq
              have HN := HnF hT
              clear h2 HT HnT HnF HRn hT
              clear hHi hTop
              go_wp2_with fail
              refine (H1.out _).mono ?_
              rintro e w1 ⟨rfl, rfl⟩
              go_wp2_with fail
              go_round
              case rel => exact ⟨k, x, by omega, hx, by rw [← Hh.out]; congr 1, rfl, HN⟩
              case measure => simp [intOf]; omega
          · have hT : rootT p false y = false := by rw [h2]; simp [hlt, heq]
            have HN := HnF hT
            clear h2 HT HnT HnF HRn hT
            clear hHi hTop
            go_wp2_with fail
            refine (H1.out _).mono ?_
            rintro e w1 ⟨rfl, rfl⟩
            go_wp2_with fail
            go_round
            case rel => exact ⟨k, x, by omega, hx, by rw [← Hh.out]; congr 1, rfl, HN⟩
            case measure => simp [intOf]; omega
end Go.Proofs.Ytbccljpbnbobmaa
