/- bits.Unvar and the document's Unvar. Conditions: none. -/
import Derived.Test.YtbccljpbnbobmaaUv
namespace Go.Proofs.Ytbccljpbnbobmaa
open Go.RowKit

/-- Some number that stands at the front. -/
def SomeUV (l : List UInt8) (w : World) (e : Ending) (w' : World) : Prop := ∃ x n : Nat, UV l x n ∧ e = .returned (.tuple #[.int .u64 (x : Int), .int .i64 (n : Int)]) ∧ Below w.heap.size w w'

/-- The first k bytes have their highest bits set. -/
def High (l : List UInt8) (k : Nat) : Prop := ∀ j (_hj : j < k) (hs : j < l.length), 128 ≤ (l[j]).toNat

theorem High.at_ {l : List UInt8} {k : Nat} (h : High l k) (hk : k ≤ l.length) (y : Nat) : varL y <+: l ↔ ∃ z, (0 < k → 0 < z) ∧ y = v7 (l.take k) + 128 ^ k * z ∧ varL z <+: l.drop k :=
  varL_at l k hk (fun j hj => h j hj (by omega)) y

theorem no_end (l : List UInt8) (h : High l l.length) (y : Nat) : ¬ varL y <+: l := by
  intro hp
  obtain ⟨z, _, _, hz⟩ := (h.at_ (Nat.le_refl _) y).1 hp
  rw [List.drop_length, List.prefix_nil] at hz
  have := varL_pos z
  rw [hz] at this; simp at this

theorem no_zero (l : List UInt8) (k : Nat) (hk : k < l.length) (hk0 : 0 < k) (h : High l k) (h0 : (l[k]).toNat = 0) (y : Nat) : ¬ varL y <+: l := by
  intro hp
  obtain ⟨z, hz0, _, hz⟩ := (h.at_ (by omega) y).1 hp
  rw [List.drop_eq_getElem_cons hk] at hz
  have := (varL_cons_low z _ _ (by omega)).1 hz
  have := hz0 hk0
  omega

theorem no_ten (l : List UInt8) (k : Nat) (hk : k < l.length) (hk9 : k = 9) (h : High l k) (h0 : 1 < (l[k]).toNat) (y : Nat) (hy : y < 18446744073709551616) : ¬ varL y <+: l := by
  intro hp
  obtain ⟨z, hz0, e, hz⟩ := (h.at_ (by omega) y).1 hp
  rw [List.drop_eq_getElem_cons hk] at hz
  have hz2 : 2 ≤ z := by
    by_cases hl : (l[k]).toNat < 128
    · have := (varL_cons_low z _ _ hl).1 hz
      omega
    · obtain ⟨z', h1, h2, _⟩ := (varL_cons_high z _ _ (by omega)).1 hz
      omega
  subst hk9
  have : 128 ^ 9 * 2 ≤ 128 ^ 9 * z := Nat.mul_le_mul_left _ hz2
  have e2 : (128 : Nat) ^ 9 * 2 = 18446744073709551616 := by decide
  omega

theorem yes_at (l : List UInt8) (k : Nat) (hk : k < l.length) (h : High l k) (hl : (l[k]).toNat < 128) (h0 : 0 < k → 0 < (l[k]).toNat) (x : Nat) (hx : x = v7 (l.take k) + 128 ^ k * (l[k]).toNat) (hb : x < 18446744073709551616) : UV l x (k + 1) := by
  refine .inl ⟨hb, (h.at_ (by omega) x).2 ⟨(l[k]).toNat, h0, hx, ?_⟩, ?_⟩
  · rw [List.drop_eq_getElem_cons hk]
    exact (varL_cons_low _ _ _ hl).2 rfl
  · rw [hx, varL_len_at (l.take k) k _ (by simp; omega) h0, varL_small _ hl]
    · rfl
    · intro c hc
      obtain ⟨j, hj, rfl⟩ := List.getElem_of_mem hc
      rw [List.getElem_take]
      exact h j (by simp at hj; omega) (by simp at hj; omega)

theorem High.succ {l : List UInt8} {k : Nat} (h : High l k) (hk : k < l.length) (hl : 128 ≤ (l[k]).toNat) : High l (k + 1) := by
  intro j hj hs
  by_cases e : j = k
  · subst e; exact hl
  · exact h j (by omega) hs

theorem v7_take_succ (l : List UInt8) (k : Nat) (hk : k < l.length) : v7 (l.take (k + 1)) = v7 (l.take k) + 128 ^ k * ((l[k]).toNat % 128) := by
  rw [List.take_succ_eq_append_getElem hk, v7_snoc]
  congr 3
  simp; omega

theorem data_get (s : ByteArray) (k : Nat) (h : k < s.size) : s.data.toList[k]'(by simpa using h) = s[k] := rfl

theorem and127 (c : Nat) (hc : c < 256) : bits .and .u64 (c : Int) 127 = (c : Int) % 128 := by
  have h := u64_and_nat c 127 (by omega) (by omega)
  refine h.trans ?_
  rw [nat_mask7]
  omega

theorem v7_fits (v c k : Nat) (hk : k ≤ 9) (hv : v < 128 ^ k) (hc : c < 128) (h9 : k < 9 ∨ c ≤ 1) : v + 128 ^ k * c < 18446744073709551616 := by
  by_cases h : k < 9
  · have h1 : 128 ^ k * c ≤ 128 ^ k * 127 := Nat.mul_le_mul_left _ (by omega)
    have h2 : 128 ^ k ≤ 128 ^ 8 := Nat.pow_le_pow_right (by decide) (by omega)
    have h3 : (128 : Nat) ^ 8 * 128 < 18446744073709551616 := by decide
    omega
  · obtain rfl : k = 9 := by omega
    have h3 : (128 : Nat) ^ 9 * 2 = 18446744073709551616 := by decide
    have h1 : 128 ^ 9 * c ≤ 128 ^ 9 * 1 := Nat.mul_le_mul_left _ (by omega)
    omega

theorem or_at (v c k : Nat) (hk : k ≤ 9) (hv : v < 128 ^ k) (hc : c < 256) (h9 : k < 9 ∨ c ≤ 1) :
    bits .or .u64 (v : Int) (IntKind.u64.wrap ((c : Int) % 128 * 2 ^ (7 * k))) = ((v + 128 ^ k * (c % 128) : Nat) : Int) := by
  have hf := v7_fits v (c % 128) k hk hv (by omega) (by omega)
  have e1 : (c : Int) % 128 * 2 ^ (7 * k) = ((c % 128 * 2 ^ (7 * k) : Nat) : Int) := by simp
  have e2 : (2 : Nat) ^ (7 * k) = 128 ^ k := by rw [Nat.pow_mul]
  rw [e1, e2, IntWalk.u64_in _ ⟨by omega, by rw [Nat.mul_comm] at hf; omega⟩, u64_or_nat _ _ (by omega) (by rw [Nat.mul_comm] at hf; omega)]
  rw [Nat.or_comm, nat_join (7 * k) _ _ (by rw [e2]; exact Nat.mul_mod_left _ _) (by rw [e2]; exact hv)]
  congr 1
  rw [Nat.mul_comm]; omega

theorem ret_uv {v k : Nat} (c : Nat) (hc : c < 128) : Ending.returned (.tuple #[.int .u64 ((v : Int) + 128 ^ k * ((c : Int) % 128)), .int .i64 ((k : Int) + 1)]) =
    .returned (.tuple #[.int .u64 ((v + 128 ^ k * c : Nat) : Int), .int .i64 ((k + 1 : Nat) : Int)]) := by
  have h : (c : Int) % 128 = c := by omega
  rw [h]
  simp

set_option maxRecDepth 100000 in
theorem unvar_any (s : ByteArray) (w : World) (hs : s.size ≤ maxLen) :
    Calls Try.prog 25 #[.string s] w (SomeUV s.data.toList w) := by
  unfold maxLen at hs
  go_enter Try.func25, Try.ntmps25
  go_wp2
  go_loop [4, 5] (fun x i => ∃ k : Nat, k ≤ s.size ∧ k ≤ 9 ∧ i = .int .i64 (k : Int) ∧ x = .int .u64 (v7 (s.data.toList.take k) : Int) ∧ High s.data.toList k)
    (fun _ i => 10 - (intOf i).toNat)
  case atStart => exact ⟨0, by omega, by omega, rfl, rfl, fun j hj => by omega⟩
  case round =>
    obtain ⟨k, hk, hk9, rfl, rfl, hh⟩ := hrel
    have Hh := Lib.hid hh
    clear hh
    by_cases h1 : k < s.size
    · have h9 : (k : Int) < 10 := by omega
      have hc := s[k].toNat_lt
      have hand := and127 s[k].toNat hc
      obtain ⟨b9, hb9, hk9'⟩ : ∃ b : Bool, ((k : Int) == 9) = b ∧ Hid (b = true → k = 9) ∧ Hid (b = false → k < 9) := by
        by_cases e : k = 9
        · exact ⟨true, by simp; omega, fun _ => e, fun h => by cases h⟩
        · exact ⟨false, by simp; omega, fun h => (by cases h), fun _ => by omega⟩
      obtain ⟨b0, hb0, hz0⟩ : ∃ b : Bool, ((s[k].toNat : Int) == 0) = b ∧ Hid (b = true → s[k].toNat = 0) ∧ Hid (b = false → 0 < s[k].toNat) := by
        by_cases e : s[k].toNat = 0
        · exact ⟨true, by simp; omega, fun _ => e, fun h => by cases h⟩
        · exact ⟨false, by simp; omega, fun h => (by cases h), fun _ => by omega⟩
      by_cases hbad : k = 9 ∧ 1 < s[k].toNat
      · obtain ⟨e, hb⟩ := hbad
        have hb9t : ((k : Int) == 9) = true := by simp; omega
        have HE := Lib.hid e
        clear e hb9 hk9' hb0 hz0
        go_wp2
        go_ret2
        refine ⟨0, 0, .inr ⟨rfl, rfl, fun y hy hp => ?_⟩, rfl, Below.refl _ _⟩
        exact no_ten _ k (by simpa using h1) HE.out Hh.out (by rw [data_get s k h1]; exact hb) y hy hp
      · have hlow : k < 9 ∨ s[k].toNat ≤ 1 := by omega
        have hv7 := v7_lt (s.data.toList.take k)
        rw [List.length_take, Nat.min_eq_left (by simpa using hk)] at hv7
        have hor := or_at _ _ k hk9 hv7 hc hlow
        have Hlow := Lib.hid hlow
        have Hv7 := Lib.hid hv7
        by_cases hk0 : 0 < k
        · cases b0
          · have hd0 := hz0.2.out rfl
            by_cases hlast : s[k].toNat < 128
            · cases b9
              · clear hk9' hbad hlow hz0 hv7
                go_wp2
                go_ret2
                exact ⟨_, k + 1, yes_at _ k (by simpa using h1) Hh.out (by rw [data_get s k h1]; exact hlast) (fun _ => by rw [data_get s k h1]; exact hd0) _ (by rw [data_get s k h1]) (by have := v7_fits _ s[k].toNat k hk9 Hv7.out hlast Hlow.out; exact this), ret_uv s[k].toNat hlast, Below.refl _ _⟩
              · have hle : s[k].toNat ≤ 1 := by have := hk9'.1.out rfl; omega
                clear hk9' hbad hlow hz0 hv7
                go_wp2
                go_ret2
                exact ⟨_, k + 1, yes_at _ k (by simpa using h1) Hh.out (by rw [data_get s k h1]; exact hlast) (fun _ => by rw [data_get s k h1]; exact hd0) _ (by rw [data_get s k h1]) (by have := v7_fits _ s[k].toNat k hk9 Hv7.out hlast Hlow.out; exact this), ret_uv s[k].toNat hlast, Below.refl _ _⟩
            · have hk8 : k < 9 := by omega
              have Hs := Lib.hid (Hh.out.succ (by simpa using h1) (by rw [data_get s k h1]; omega))
              have Ht := Lib.hid (v7_take_succ s.data.toList k (by simpa using h1))
              cases b9
              · clear hk9' hbad hlow hz0 hv7
                go_wp2
                go_round
                case rel => exact ⟨k + 1, by omega, by omega, by go_num, by rw [Ht.out, data_get s k h1]; go_num, Hs.out⟩
                case measure => simp [intOf]; omega
              · have := hk9'.1.out rfl
                omega
          · have hz := hz0.1.out rfl
            have hle : s[k].toNat ≤ 1 := by omega
            clear hz0 hbad hlow hv7
            cases b9
            all_goals
              clear hk9'
              go_wp2
              go_ret2
              refine ⟨0, 0, .inr ⟨rfl, rfl, fun y hy hp => ?_⟩, rfl, Below.refl _ _⟩
              exact no_zero _ k (by simpa using h1) hk0 Hh.out (by rw [data_get s k h1]; exact hz) y hp
        · cases b9
          · by_cases hlast : s[k].toNat < 128
            · clear hk9' hbad hlow hz0 hv7 hb0
              go_wp2
              go_ret2
              exact ⟨_, k + 1, yes_at _ k (by simpa using h1) Hh.out (by rw [data_get s k h1]; exact hlast) (fun _ => by omega) _ (by rw [data_get s k h1]) (by have := v7_fits _ s[k].toNat k hk9 Hv7.out hlast Hlow.out; exact this), ret_uv s[k].toNat hlast, Below.refl _ _⟩
            · have Hs := Lib.hid (Hh.out.succ (by simpa using h1) (by rw [data_get s k h1]; omega))
              have Ht := Lib.hid (v7_take_succ s.data.toList k (by simpa using h1))
              clear hk9' hbad hlow hz0 hv7 hb0
              go_wp2
              go_round
              case rel => exact ⟨k + 1, by omega, by omega, by go_num, by rw [Ht.out, data_get s k h1]; go_num, Hs.out⟩
              case measure => simp [intOf]; omega
          · have := hk9'.1.out rfl
            omega
    · obtain rfl : k = s.size := by omega
      go_wp2
      go_ret2
      refine ⟨0, 0, .inr ⟨rfl, rfl, fun y hy hp => ?_⟩, rfl, Below.refl _ _⟩
      exact no_end _ Hh.out y hp
end Go.Proofs.Ytbccljpbnbobmaa
