/- The document's Unvar: by trying each length. Conditions: none. -/
import Derived.Test.YtbccljpbnbobmaaUnvar
import Derived.Deep.RegionWith
namespace Go.Proofs.Ytbccljpbnbobmaa
open Go.RowKit

def m64 (x : Nat) : Nat := x % 18446744073709551616
theorem m64_lt (x : Nat) : m64 x < 18446744073709551616 := Nat.mod_lt _ (by decide)
theorem m64_le (x : Nat) : (m64 x : Int) ≤ 18446744073709551615 := by have := m64_lt x; omega

theorem m64_unit (k : Nat) : IntKind.u64.wrap ((m64 (128 ^ k) : Int) * 128) = ((m64 (128 ^ (k + 1)) : Nat) : Int) := by
  rw [IntKind.wrap_u64]
  unfold m64
  rw [Nat.pow_succ]
  omega

theorem m64_step (v k c : Nat) : IntKind.u64.wrap ((m64 v : Int) + IntKind.u64.wrap ((c : Int) * (m64 (128 ^ k) : Int))) = ((m64 (v + 128 ^ k * c) : Nat) : Int) := by
  rw [IntKind.wrap_u64, IntKind.wrap_u64]
  unfold m64
  have h1 : ((128 ^ k % 18446744073709551616 : Nat) : Int) = ((128 ^ k : Nat) : Int) % 18446744073709551616 := rfl
  rw [h1]
  have h2 : (c : Int) * (((128 ^ k : Nat) : Int) % 18446744073709551616) % 18446744073709551616 = ((128 ^ k : Nat) : Int) * c % 18446744073709551616 := by
    rw [Int.mul_emod, Int.emod_emod_of_dvd _ (Int.dvd_refl _), ← Int.mul_emod, Int.mul_comm]
  rw [h2]
  have h3 : ((128 ^ k : Nat) : Int) * c = ((128 ^ k * c : Nat) : Int) := by simp
  rw [h3]
  omega

theorem v7_varL (y : Nat) : v7 (varL y) = y := by
  induction y using Nat.strongRecOn with
  | ind y ih =>
    by_cases h : y < 128
    · rw [varL_small y h]; simp [v7, UInt8.toNat_ofNat']; omega
    · rw [varL_big y h]
      simp only [v7, ih (y / 128) (by omega), UInt8.toNat_ofNat']
      omega

/-- No length below n answers. -/
def NoneBelow (l : List UInt8) (n : Nat) : Prop := ∀ m, 1 ≤ m → m < n → m ≤ l.length → varL (m64 (v7 (l.take m))) ≠ l.take m

theorem NoneBelow.end_ {l : List UInt8} {n : Nat} (h : NoneBelow l n) (hn : n = 11 ∨ l.length < n) (y : Nat) (hy : y < 18446744073709551616) : ¬ varL y <+: l := by
  intro hp
  have h1 := varL_pos y
  have h2 := varL_ten y hy
  have h3 := hp.length_le
  have e : varL y = l.take (varL y).length := List.prefix_iff_eq_take.1 hp
  refine h (varL y).length h1 (by omega) h3 ?_
  rw [← e, v7_varL]
  unfold m64
  rw [Nat.mod_eq_of_lt hy]

theorem uv_of_hit {l : List UInt8} {n : Nat} (hn : n ≤ l.length) (h : varL (m64 (v7 (l.take n))) = l.take n) : UV l (m64 (v7 (l.take n))) n := by
  refine .inl ⟨m64_lt _, ?_, ?_⟩
  · rw [h]; exact List.take_prefix _ _
  · rw [h]; simp; omega

theorem NoneBelow.succ {l : List UInt8} {n : Nat} (h : NoneBelow l n) (hm : varL (m64 (v7 (l.take n))) ≠ l.take n) : NoneBelow l (n + 1) := by
  intro m h1 h2 h3
  by_cases e : m = n
  · subst e; exact hm
  · exact h m h1 (by omega) h3

set_option maxRecDepth 100000 in
theorem refUnvar_any (s : ByteArray) (w : World) (hs : s.size ≤ maxLen) :
    Calls Try.prog 26 #[.string s] w (SomeUV s.data.toList w) := by
  unfold maxLen at hs
  go_enter Try.func26, Try.ntmps26
  go_wp2
  go_loopw [4] (fun i wr => ∃ n : Nat, 1 ≤ n ∧ n ≤ 11 ∧ i = .int .i64 (n : Int) ∧ NoneBelow s.data.toList n ∧ Below w.heap.size w wr)
    (fun i _ => 11 - (intOf i).toNat)
  case atStart => exact ⟨1, by omega, by omega, rfl, (fun m h1 h2 => by omega), Below.refl _ _⟩
  case round =>
    obtain ⟨n, hn1, hn11, rfl, hno, hb⟩ := hrel
    have Hno := Lib.hid hno
    clear hno
    by_cases h10 : n ≤ 10
    · by_cases h1 : n ≤ s.size
      · obtain ⟨wo, rfl⟩ : ∃ wo : World, wo = wr := ⟨_, rfl⟩
        go_wp2
        go_loop [5, 6, 7] (fun x u i => ∃ k : Nat, k ≤ n ∧ i = .int .i64 (k : Int) ∧ x = .int .u64 (m64 (v7 (s.data.toList.take k)) : Int) ∧ u = .int .u64 (m64 (128 ^ k) : Int))
          (fun _ _ i => n - (intOf i).toNat)
        case atStart => exact ⟨0, by omega, rfl, rfl, rfl⟩
        case round =>
          obtain ⟨k, hk, rfl, rfl, rfl⟩ := hrel
          have hx := m64_le (v7 (s.data.toList.take k))
          have hu := m64_le (128 ^ k)
          by_cases hlt : k < n
          · have hks : k < s.size := by omega
            have hc := s[k].toNat_lt
            have hst := m64_step (v7 (s.data.toList.take k)) k (s[k].toNat % 128)
            have hun := m64_unit k
            have Ht := Lib.hid (v7_take_succ s.data.toList k (by simpa using hks))
            go_wp2
            go_round
            case rel => exact ⟨k + 1, by omega, by go_num, by rw [Ht.out, data_get s k hks]; exact congrArg _ hst, rfl⟩
            case measure => simp [intOf]; omega
          · obtain rfl : k = n := by omega
            have hlt64 := Lib.hid (m64_lt (v7 (s.data.toList.take k)))
            go_wp2_with fail
            go_region_with (go_at_call 27; refine (refVar_any _ hlt64.out _).mono ?_; rintro e w1 ⟨rfl, hb1⟩)
            all_goals go_wp2
            · have he : (varL (m64 (v7 (s.data.toList.take k))) == (s.extract 0 k).toList) = true := by assumption
              rw [toList_front] at he
              go_ret2
              exact ⟨_, k, uv_of_hit (by simpa using h1) (by simpa using he), rfl, hb.trans (below_drew hb1 hb.size)⟩
            · have he : (varL (m64 (v7 (s.data.toList.take k))) == (s.extract 0 k).toList) = false := by assumption
              rw [toList_front] at he
              go_roundw
              case rel => exact ⟨k + 1, by omega, by omega, by go_num, Hno.out.succ (by simpa using he), hb.trans (below_drew hb1 hb.size)⟩
              case measure => simp [intOf]; omega
      · go_wp2
        go_ret2
        exact ⟨0, 0, .inr ⟨rfl, rfl, Hno.out.end_ (.inr (by simp; omega))⟩, rfl, hb⟩
    · go_wp2
      go_ret2
      exact ⟨0, 0, .inr ⟨rfl, rfl, Hno.out.end_ (.inl (by omega))⟩, rfl, hb⟩
end Go.Proofs.Ytbccljpbnbobmaa
