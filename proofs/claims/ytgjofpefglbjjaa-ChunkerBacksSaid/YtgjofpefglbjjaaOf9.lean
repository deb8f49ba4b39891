/- poly.Of: the fingerprint of a text; the document's Text. Conditions: texts of at most 100,000 bytes. -/
import Derived.Test.YtgjofpefglbjjaaPolyB
import Derived.Test.YtgjofpefglbjjaaRef9b
namespace Go.Proofs.Ytgjofpefglbjjaa
open Go.RowKit
set_option maxRecDepth 100000

theorem of_no (s : ByteArray) (m : Nat) (hm : m < 18446744073709551616) (hf : fitB m = false) (w : World) :
    Calls Try.prog 32 #[.string s, .int .u64 (m : Int)] w fun e w' => e = .returned (.tuple #[.int .u64 0, .int .i64 1]) ∧ w = w' := by
  have H := Lib.hid hf
  clear hf
  go_enter Try.func32, Try.ntmps32
  go_wp2_with (refine (fit_any m hm _).mono ?_; rw [H.out]; rintro e w' ⟨rfl, rfl⟩)
  go_ret2
  exact ⟨rfl, rfl⟩

theorem tx_take (s : ByteArray) (k : Nat) (h : k < s.size) : Gf.tx (s.data.toList.take (k + 1)) = Gf.tx (s.data.toList.take k) * 256 + s[k].toNat := by
  rw [List.take_succ_eq_append_getElem (by simpa using h), Gf.tx_snoc]; rfl
theorem md_horner (a c m : Nat) (hc : c < 256) (hm : m ≠ 0) : Gf.md (Gf.md a m * 256 + c) m = Gf.md (a * 256 + c) m := by
  rw [Gf.add_xor _ _ hc, Gf.add_xor _ _ hc, Gf.md_xor hm, Gf.md_xor hm]
  congr 1
  exact Gf.md_eq hm ((Gf.md_spec a hm).1.mul _)

theorem of_yes (s : ByteArray) (hs : s.size ≤ 100000) (m : Nat) (hm : m < 18446744073709551616) (hf : fitB m = true) (w : World) :
    Calls Try.prog 32 #[.string s, .int .u64 (m : Int)] w fun e w' => e = .returned (.tuple #[.int .u64 (Gf.md (Gf.tx s.data.toList) m : Int), .int .i64 0]) ∧ Below w.heap.size w w' := by
  obtain ⟨hf1, hf2, hm0⟩ := fit_len hf
  have H := Lib.hid hf
  have Hm0 := Lib.hid hm0
  have Hf2 := Lib.hid hf2
  clear hf hm0 hf1 hf2
  have hcv := fun W => run_bytes_of_string (P := Try.prog) W 9 53 5 s Try.underlying9 Try.underlying53 Try.underlying5
  go_enter Try.func32, Try.ntmps32
  go_wp2_with (refine (fit_any m hm _).mono ?_; rw [H.out]; rintro e w' ⟨rfl, rfl⟩)
  clear hcv
  have hK0 := (KeepB.new w s (grownCap w s.size 0 5)).drew
  have hb0 := ((Below.refl w.heap.size w).alloc (Nat.le_refl _) (.cells (bytesRow s (grownCap w s.size 0 5)) 5 ((bytesRow s (grownCap w s.size 0 5)).size, (bytesRow s (grownCap w s.size 0 5)).size + 1))).drew
  generalize (w.alloc (.cells (bytesRow s (grownCap w s.size 0 5)) 5 ((bytesRow s (grownCap w s.size 0 5)).size, (bytesRow s (grownCap w s.size 0 5)).size + 1))).drew = w2 at *
  go_loop [6, 15] (fun p i => ∃ k : Nat, k ≤ s.size ∧ i = .int .i64 (k : Int) ∧ p = .int .u64 (Gf.md (Gf.tx (s.data.toList.take k)) m : Int))
    (fun _ i => s.size - (intOf i).toNat)
  case atStart => exact ⟨0, Nat.zero_le _, rfl, by rw [show Gf.tx (s.data.toList.take 0) = 0 from rfl, Gf.md_zero]; rfl⟩
  case round =>
    obtain ⟨k, hk, rfl, rfl⟩ := hrel
    by_cases hlt : k < s.size
    · have hc := hK0.cell k hlt
      have hcb := s[k].toNat_lt
      have hpl := lt64 (Gf.md_spec (Gf.tx (s.data.toList.take k)) Hm0.out).2 Hf2.out
      have ca := fun W => append_yes (Gf.md (Gf.tx (s.data.toList.take k)) m) s[k].toNat m hpl hcb hm H.out W
      rw [md_horner _ _ _ hcb Hm0.out, ← tx_take s k hlt] at ca
      have Ca := Lib.hid ca
      clear ca
      generalize Gf.md (Gf.tx (s.data.toList.take k)) m = a at *
      obtain ⟨b, Hb⟩ : ∃ b, Hid (Gf.md (Gf.tx (s.data.toList.take (k + 1))) m = b) := ⟨_, Lib.hid (Eq.refl _)⟩
      rw [Hb.out] at Ca
      go_wp2_with (refine (Ca.out _).mono ?_; rintro e w' ⟨rfl, rfl⟩)
      go_round
      case rel => exact ⟨k + 1, by omega, by go_num, by rw [Hb.out]⟩
      case measure => simp [intOf]; omega
    · obtain rfl : k = s.size := by omega
      go_wp2_with fail
      go_ret2
      have e : s.data.toList.take s.size = s.data.toList := List.take_of_length_le (by simp)
      rw [e]
      exact ⟨rfl, hb0⟩

theorem bit_add (a c j : Nat) (hc : c < 256) : (a * 256 + c).testBit j = if j < 8 then c.testBit j else a.testBit (j - 8) := by
  have h2 := Nat.shiftLeft_add_eq_or_of_lt (i := 8) (b := c) (by simpa using hc) a
  rw [Nat.shiftLeft_eq] at h2
  rw [show (256 : Nat) = 2 ^ 8 by decide, h2, Nat.testBit_or, Nat.mul_comm, Nat.testBit_two_pow_mul]
  by_cases h : j < 8
  · rw [if_pos h]
    simp; omega
  · rw [if_neg h]
    have : c.testBit j = false := Nat.testBit_lt_two_pow (Nat.lt_of_lt_of_le hc (by
      have := Nat.pow_le_pow_right (n := 2) (by decide) (show 8 ≤ j by omega)
      simpa using this))
    simp [this]; omega
theorem tx_bit_take (l : List UInt8) (i k : Nat) (hi : i < l.length) (hk : k < 8) : ∀ m, i < m → m ≤ l.length → (Gf.tx (l.take m)).testBit (8 * (m - 1 - i) + k) = (l[i].toNat).testBit k := by
  intro m
  induction m with
  | zero => omega
  | succ m ih =>
    intro h1 h2
    rw [List.take_succ_eq_append_getElem (show m < l.length by omega), Gf.tx_snoc, bit_add _ _ _ (UInt8.toNat_lt _)]
    by_cases e : i = m
    · subst e
      rw [if_pos (by omega), show 8 * (i + 1 - 1 - i) + k = k by omega]
    · rw [if_neg (by omega), show 8 * (m + 1 - 1 - i) + k - 8 = 8 * (m - 1 - i) + k by omega]
      exact ih (by omega) (by omega)
theorem tx_bit (s : ByteArray) (i k : Nat) (hi : i < s.size) (hk : k < 8) : (Gf.tx s.data.toList).testBit (8 * (s.size - 1 - i) + k) = (s[i].toNat).testBit k := by
  have h := tx_bit_take s.data.toList i k (by simpa using hi) hk s.size hi (by simp)
  rw [List.take_of_length_le (by simp)] at h
  exact h

theorem tx_lt_list (l : List UInt8) : Gf.tx l < 2 ^ (8 * l.length) := by
  have : ∀ m, m ≤ l.length → Gf.tx (l.take m) < 2 ^ (8 * m) := by
    intro m
    induction m with
    | zero => intro _; simp [Gf.tx]
    | succ m ih =>
      intro h
      have h1 := ih (by omega)
      have h2 := (l[m]'(by omega)).toNat_lt
      rw [List.take_succ_eq_append_getElem (show m < l.length by omega), Gf.tx_snoc, show 8 * (m + 1) = 8 * m + 8 by omega, Nat.pow_add]
      have : (2 : Nat) ^ 8 = 256 := by decide
      omega
  have h := this l.length (Nat.le_refl _)
  rwa [List.take_length] at h

set_option maxHeartbeats 1000000 in
theorem text_any (s : ByteArray) (hs : s.size ≤ 10000) (w : World) :
    Calls Try.prog 35 #[.string s] w fun e w' => ∃ v, e = .returned v ∧ OwnV w' w.heap.size (8 * s.size) (Gf.tx s.data.toList) v ∧ Below w.heap.size w w' := by
  obtain ⟨V, HV⟩ : ∃ V, Hid (Gf.tx s.data.toList = V) := ⟨_, Lib.hid (Eq.refl _)⟩
  rw [HV.out]
  go_enter Try.func35, Try.ntmps35
  go_wp2_with fail
  have h0 := OwnV.empty w w.heap.size V (Nat.le_refl _)
  have hb0 := (Below.refl w.heap.size w).alloc (Nat.le_refl _) (.cells #[] 4)
  go_loopw [3, 4, 5] (fun v i _ wr => ∃ (t : Nat) (ii : Int), t ≤ s.size ∧ Hid (ii = (t : Int) - 1) ∧ i = .int .i64 ii ∧ OwnV wr w.heap.size (8 * (s.size - t)) V v ∧ Below w.heap.size w wr)
    (fun _ i _ _ => (intOf i + 1).toNat)
  case atStart => exact ⟨s.size, (s.size : Int) - 1, Nat.le_refl _, rfl, rfl, by rw [Nat.sub_self]; exact h0, hb0⟩
  case round =>
    clear h0 hb0
    obtain ⟨t, ii, ht, Hii, rfl, hown, hb⟩ := hrel
    rcases Nat.eq_zero_or_pos t with rfl | ht0
    · obtain rfl : ii = -1 := by have := Hii.out; omega
      go_wp2_with fail
      go_ret
      exact ⟨_, rfl, hown, hb⟩
    · obtain ⟨i, rfl⟩ : ∃ i, t = i + 1 := ⟨t - 1, by omega⟩
      obtain rfl : ii = (i : Int) := by have := Hii.out; omega
      have his : i < s.size := by omega
      have Hown := Lib.hid hown
      have Hb := Lib.hid hb
      clear hown hb ht ht0
      go_wp2_with fail
      go_loopw [3, 5] (fun v k wr => ∃ j : Nat, j ≤ 8 ∧ k = .int .i64 (j : Int) ∧ OwnV wr w.heap.size (8 * (s.size - (i + 1)) + j) V v ∧ Below w.heap.size w wr)
        (fun _ k _ => 8 - (intOf k).toNat)
      case atStart => exact ⟨0, by omega, rfl, Hown.out, Hb.out⟩
      case round =>
        clear Hown Hb
        obtain ⟨j, hj, rfl, hown, hb⟩ := hrel
        have hbs := hb.size
        by_cases hjl : j < 8
        · have hcb := s[i].toNat_lt
          have hbit := tx_bit s i j his hjl
          rw [HV.out, show s.size - 1 - i = s.size - (i + 1) by omega] at hbit
          rw [Nat.testBit_eq_decide_div_mod_eq (x := s[i].toNat)] at hbit
          obtain ⟨x, hx, hx2⟩ : ∃ x : Nat, s[i].toNat / 2 ^ j = x ∧ x < 256 := ⟨_, rfl, Nat.lt_of_le_of_lt (Nat.div_le_self _ _) hcb⟩
          have hdv : (s[i].toNat : Int) / 2 ^ j = (x : Int) := by rw [← hx]; simp
          have hand : bits .and .u8 (x : Int) 1 = ((x % 2 : Nat) : Int) := by
            have := u8_and_nat x 1 hx2 (by decide)
            rw [Nat.and_one_is_mod] at this
            exact this
          rw [hx] at hbit
          obtain ⟨b, hb2⟩ : ∃ b, V.testBit (8 * (s.size - (i + 1)) + j) = b := ⟨_, rfl⟩
          have Hbit := Lib.hid hb2
          rw [hb2] at hbit
          have he : (((x % 2 : Nat) : Int) == 1) = b := by rw [hbit, Bool.eq_iff_iff]; simp; omega
          obtain ⟨y, hy⟩ : ∃ y, x % 2 = y := ⟨_, rfl⟩
          rw [hy] at hand he
          clear hy hb2 hbit hx
          obtain ⟨n, hn, hnl⟩ : ∃ n, 8 * (s.size - (i + 1)) + j = n ∧ n ≤ 80000 := ⟨_, rfl, by omega⟩
          have Hn := Lib.hid hn
          rw [hn] at Hbit hown
          clear hn
          go_wp2_with (at_builtin; go_must (refine wpList_append_bool _ rfl _ _ rfl w.heap.size _ n V b hown Hbit.out rfl rfl rfl ?_ hbs ?_; omega; intro v' w1 hown1 hb1))
          go_roundw
          case rel => exact ⟨j + 1, by omega, by go_num, by rw [← Nat.add_assoc, Hn.out]; exact hown1, hb.trans hb1⟩
          case measure => simp [intOf]; omega
        · obtain rfl : j = 8 := by omega
          go_wp2_with fail
          go_roundw
          case rel => exact ⟨i, (i : Int) - 1, by omega, rfl, rfl, by rw [show 8 * (s.size - i) = 8 * (s.size - (i + 1)) + 8 by omega]; exact hown, hb⟩
          case measure => (simp [intOf] <;> omega)
end Go.Proofs.Ytgjofpefglbjjaa
