/- The law BitsOrder of layer 1, walked. Conditions: none. -/
import Derived.Test.YtbccljpbnbobmaaLaw1a
namespace Go.Proofs.Ytbccljpbnbobmaa
open Go.RowKit
set_option maxRecDepth 100000

/-- A slice of numbers that came in. -/
def Row64 (w : World) (a : Option Addr) (len : Nat) (m : Nat → Nat) : Prop :=
  len = 0 ∨ ∃ b off, a = some ⟨b, off, none⟩ ∧ b < w.heap.size ∧ ∀ i, i < len → w.cell? ⟨b, off + i, none⟩ = some (.int .u64 (m i : Int)) ∧ m i < 18446744073709551616

/-- The groups of n numbers from place i on. -/
def catV (m : Nat → Nat) (i : Nat) : Nat → List UInt8
  | 0 => []
  | n + 1 => varL (m i) ++ catV m (i + 1) n
theorem catV_snoc (m : Nat → Nat) (n : Nat) : ∀ i, catV m i (n + 1) = catV m i n ++ varL (m (i + n)) := by
  induction n with
  | zero => intro i; simp [catV]
  | succ n ih =>
    intro i
    rw [catV, ih (i + 1), catV, List.append_assoc]
    have e : i + 1 + n = i + (n + 1) := by omega
    rw [e]
theorem catV_len (m : Nat → Nat) (n : Nat) : ∀ i, (∀ j, j < i + n → m j < 18446744073709551616) → (catV m i n).length ≤ 10 * n := by
  induction n with
  | zero => intro i _; simp [catV]
  | succ n ih =>
    intro i h
    have h1 := varL_ten (m i) (h i (by omega))
    have h2 := ih (i + 1) (fun j hj => h j (by omega))
    simp only [catV, List.length_append]
    omega

theorem data_size' (s : ByteArray) : s.data.toList.length = s.size := by simp

theorem varL_mono (x y : Nat) (h : x ≤ y) : (varL x).length ≤ (varL y).length := by
  induction y using Nat.strongRecOn generalizing x with
  | ind y ih =>
    by_cases hx : x < 128
    · rw [varL_small x hx]; exact varL_pos y
    · rw [varL_big x hx, varL_big y (by omega)]
      simp only [List.length_cons]
      have := ih (y / 128) (by omega) (x / 128) (by omega)
      omega
theorem varL_inj (x y : Nat) (h : varL x = varL y) : x = y := by rw [← v7_varL x, h, v7_varL]
theorem getN_putL (x n : Nat) : getN (putL x n) = x % 256 ^ n := by
  induction n with
  | zero => simp [putL, getN]; omega
  | succ n ih =>
    rw [putL, getN_snoc, ih, putL_length]
    have h1 : (UInt8.ofNat (x / 256 ^ n % 256)).toNat = x / 256 ^ n % 256 := by simp
    rw [h1, Nat.pow_succ, Nat.mod_mul]
theorem getN_put8 (x : Nat) (hx : x < 18446744073709551616) : getN ((putL x 8).take 8) = x := by
  rw [List.take_of_length_le (by rw [putL_length]; exact Nat.le_refl _), getN_putL]
  exact Nat.mod_eq_of_lt (by simpa using hx)
theorem putL_inj (x y : Nat) (hx : x < 18446744073709551616) (hy : y < 18446744073709551616) (h : putL x 8 = putL y 8) : x = y := by
  rw [← getN_put8 x hx, h, getN_put8 y hy]

set_option maxHeartbeats 1000000 in
theorem order_any (x y : Nat) (a : Option Addr) (len cap : Nat) (m : Nat → Nat) (hx : x < 18446744073709551616) (hy : y < 18446744073709551616) (hlen : len ≤ 9223372036854775807) (w : World) (hr : Row64 w a len m) :
    Calls Try.prog 8 #[.int .u64 (x : Int), .int .u64 (y : Int), .slice a len cap] w fun e w' => e = .returned (.bool true) ∧ Below w.heap.size w w' := by
  have hl : x < y → (varL x).length ≤ (varL y).length := fun h => varL_mono x y (by omega)
  have hbb := Below.refl w.heap.size w
  obtain ⟨q, hq1, hq2, hq3⟩ : ∃ q : Bool, (varL x == varL y) = q ∧ ((x : Int) == (y : Int)) = q ∧ (putL x 8 == putL y 8) = q := by
    by_cases h : x = y
    · subst h; exact ⟨true, by simp, by simp, by simp⟩
    · exact ⟨false, by simpa using fun e => h (varL_inj x y e), by simp; omega, by simpa using fun e => h (putL_inj x y hx hy e)⟩
  have hg := getN_put8 x hx
  have hlt : x < y ∧ ¬ (varL y).length < (varL x).length ∨ ¬ x < y := by
    by_cases h : x < y
    · exact .inl ⟨h, by have := hl h; omega⟩
    · exact .inr h
  clear hl
  have hr0 : len = 0 ∨ ∃ b off, a = some ⟨b, off, none⟩ ∧ b < w.heap.size ∧ ∀ i, i < len → w.cell? ⟨b, off + i, none⟩ = some (.int .u64 (m i : Int)) ∧ m i < 18446744073709551616 := hr
  have hm : ∀ i, i < len → m i < 18446744073709551616 := fun i hi => by
    rcases hr0 with h | ⟨b, off, _, _, hc⟩
    · omega
    · exact (hc i hi).2
  have Hm := Lib.hid hm
  have hrd : Hid (∀ i, i < len → ∃ b off, a = some ⟨b, off, none⟩ ∧ b < w.heap.size ∧ w.cell? ⟨b, off + i, none⟩ = some (.int .u64 (m i : Int))) := fun i hi => by
    rcases hr0 with h | ⟨b, off, h1, h2, hc⟩
    · omega
    · exact ⟨b, off, h1, h2, (hc i hi).1⟩
  clear hr0 hr hm
  go_enter Try.func8, Try.ntmps8
  go_wp2_with fail
  refine (var_any x hx _).mono ?_
  rintro e w1 ⟨rfl, h⟩
  replace hbb := bthen hbb h
  clear h
  go_wp2_with fail
  refine (var_any y hy _).mono ?_
  rintro e w2 ⟨rfl, h⟩
  replace hbb := bthen hbb h
  clear h
  rcases hlt with ⟨h1, h2⟩ | h1
  all_goals
    go_wp2_with fail
    refine (put_nat x 8 hx (by decide) _).mono ?_
    rintro e w3 ⟨rfl, h⟩
    replace hbb := bthen hbb h
    clear h
    go_wp2_with fail
    refine (put_nat y 8 hy (by decide) _).mono ?_
    rintro e w4 ⟨rfl, h⟩
    replace hbb := bthen hbb h
    clear h
    go_wp2_with fail
    refine (put_nat x 8 hx (by decide) _).mono ?_
    rintro e w5 ⟨rfl, h⟩
    replace hbb := bthen hbb h
    clear h
    go_wp2_with fail
    refine (get_any ⟨(putL x 8).toArray⟩ _ (by show (putL x 8).length ≤ _; rw [putL_length]; decide)).mono ?_
    rintro e w6 ⟨rfl, rfl⟩
    go_wp2_with fail
    clear hq1 hq2 hq3 hg h1
    have hN : ∃ N, N = min len 100 := ⟨_, rfl⟩
    obtain ⟨N, hN⟩ := hN
    have hN1 : N ≤ len := by omega
    have hN2 : N ≤ 100 := by omega
    have hN3 : ∀ k : Nat, k < N → (k : Int) < (len : Int) ∧ (k : Int) < 100 := fun k h => by omega
    have hN4 : ∀ k : Nat, k ≤ N → ¬ k < N → k = N ∧ (¬ k < len ∨ k < len ∧ ¬ k < 100) := fun k h h2 => by omega
    clear hN
    go_loopw [9, 10] (fun s i wr => ∃ (k : Nat) (S : ByteArray), k ≤ N ∧ i = .int .i64 (k : Int) ∧ s = .string S ∧ S.data.toList = catV m 0 k ∧ Below w.heap.size w wr)
      (fun _ i _ => 100 - (intOf i).toNat)
    case atStart => exact ⟨0, ByteArray.mk #[], Nat.zero_le _, rfl, rfl, rfl, hbb⟩
    case round =>
      clear hbb
      obtain ⟨k, S, hk, rfl, rfl, hS, hb⟩ := hrel
      have HS := Lib.hid hS
      have hSl : S.size ≤ 10 * k := by
        rw [← data_size' S, hS]
        exact catV_len m k 0 (fun j hj => Hm.out j (by omega))
      clear hS
      by_cases hlt : k < N
      · obtain ⟨h1, h2⟩ := hN3 k hlt
        obtain ⟨b, off, rfl, hbl, hc⟩ := hrd.out k (by omega)
        have hc2 := (hb.cell (p := ⟨b, off + k, none⟩) hbl).trans hc
        have Hmk := Lib.hid (Hm.out k (by omega))
        have Hs := Lib.hid (catV_snoc m k 0)
        have hv := varL_ten (m k) Hmk.out
        go_wp2_with (go_at_call 24; refine (var_any (m k) Hmk.out _).mono ?_; rintro e w7 ⟨rfl, h⟩)
        go_roundw
        case rel =>
          refine ⟨k + 1, _, by omega, by go_num, rfl, ?_, bthen hb h⟩
          rw [Hs.out, Nat.zero_add]
          simp [ByteArray.data_append, HS.out]
        case measure => simp [intOf]; omega
      · obtain ⟨rfl, h2⟩ := hN4 k hk hlt
        have hb0 := hb
        clear hb hk hlt
        rcases h2 with h2 | ⟨h2, h3⟩
        all_goals
          go_wp2_with fail
          go_loopw [9, 11, 12, 13] (fun s i _ _ wr => ∃ (j r : Nat) (S : ByteArray), j + r = k ∧ i = .int .i64 (j : Int) ∧ s = .string S ∧ S.data.toList = catV m j r ∧ Below w.heap.size w wr)
            (fun _ i _ _ _ => 100 - (intOf i).toNat)
          case atStart => exact ⟨0, k, S, by omega, rfl, rfl, HS.out, hb0⟩
          case round =>
            clear hb0 HS hSl
            obtain ⟨j, r, S, hjr, rfl, rfl, hS, hb⟩ := hrel
            have HS := Lib.hid hS
            have hSl : S.size ≤ 10 * r := by
              rw [← data_size' S, hS]
              exact catV_len m r j (fun i hi => Hm.out i (by omega))
            clear hS
            have hSm : S.size ≤ maxLen := by unfold maxLen; omega
            rcases r with _ | r
            · obtain rfl : j = k := by omega
              have hSe : S.toList = [] := by rw [ByteArray.toList_eq]; exact HS.out
              clear hN3 hN4
              have hSe2 : S.toList.isEmpty = true := by rw [hSe]; rfl
              go_wp2_with fail
              refine (awake_any _).mono ?_
              rintro e w9 ⟨rfl, h⟩
              go_wp2_with fail
              go_ret
              exact ⟨by simp, bthen hb h⟩
            · obtain ⟨b, off, rfl, hbl, hc⟩ := hrd.out j (by omega)
              have hj1 : (j : Int) < (len : Int) := by omega
              have hj2 : (j : Int) < 100 := by omega
              go_wp2_with fail
              refine (unvar_any S _ hSm).mono ?_
              rintro e w8 ⟨z, n, huv, rfl, h⟩
              have HS2 := HS.out
              rw [catV] at HS2
              rw [HS2] at huv
              obtain ⟨hz, hn⟩ := UV.one huv (UV.of_front (m j) (Hm.out j (by omega)) _)
              have hp := varL_pos (m j)
              have hnS : n ≤ S.size := by
                rw [← data_size' S, HS2, hn]; simp
              have hn1 : 1 ≤ n := by omega
              have hbx := bthen hb h
              have hc2 := (hbx.cell (p := ⟨b, off + j, none⟩) hbl).trans hc
              have hzb : ((z : Int) != (m j : Int)) = false := by simp; omega
              have HS3 : Hid ((S.extract n S.size).data.toList = catV m (j + 1) r) := by
                show _ = _
                rw [ByteArray.data_extract, Array.toList_extract, List.extract_eq_take_drop, List.take_of_length_le (by simp), HS2, hn]
                simp
              clear huv hn hz HS2 hN3 hN4
              go_wp2_with fail
              go_roundw
              case rel => exact ⟨j + 1, r, _, by omega, by go_num, rfl, HS3.out, hbx⟩
              case measure => simp [intOf]; omega
end Go.Proofs.Ytbccljpbnbobmaa
