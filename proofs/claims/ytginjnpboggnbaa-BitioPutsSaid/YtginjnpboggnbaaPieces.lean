/- The document's rows of bits: Pieces, Whole, Text. Conditions: none. -/
import Derived.Test.YtginjnpboggnbaaRow3
namespace Go.Proofs.Ytginjnpboggnbaa
open Go.RowKit
set_option maxRecDepth 100000

theorem rev_test (x n j : Nat) (h : j < n) : (rev x n).testBit j = x.testBit (n - 1 - j) := by
  induction n generalizing j with
  | zero => omega
  | succ n ih =>
    have e : rev x (n + 1) = 2 ^ 1 * rev x n + x / 2 ^ n % 2 := by simp [rev]
    rw [e, Nat.testBit_two_pow_mul_add _ (Nat.mod_lt _ (by decide))]
    by_cases h0 : j = 0
    · subst h0
      rw [if_pos (by decide), Nat.testBit_eq_decide_div_mod_eq, Nat.testBit_eq_decide_div_mod_eq]
      simp
    · rw [if_neg (by omega), ih (j - 1) (by omega)]
      congr 1
      omega
/-- What is put. -/
def pc (x k : Nat) : Bool → Nat
  | false => x % 2 ^ k
  | true => rev x k
theorem pc_lt (x k : Nat) (b : Bool) : pc x k b < 2 ^ k := by
  cases b with
  | false => exact Nat.mod_lt _ (pow_pos2 k)
  | true => exact rev_lt x k
theorem pc_test (x k j : Nat) (b : Bool) (h : j < k) : (pc x k b).testBit j = x.testBit (if b then k - 1 - j else j) := by
  cases b with
  | false =>
    show (x % 2 ^ k).testBit j = _
    rw [Nat.testBit_mod_two_pow, decide_eq_true h, Bool.true_and]
    rfl
  | true => exact rev_test x k j h
theorem joined_low (V z c i : Nat) (hV : V < 2 ^ c) (h : i < c) : V.testBit i = (V + z * 2 ^ c).testBit i := by
  rw [Nat.add_comm, Nat.mul_comm, Nat.testBit_two_pow_mul_add _ hV, if_pos h]
theorem joined_high (V z c j : Nat) (hV : V < 2 ^ c) : (V + z * 2 ^ c).testBit (c + j) = z.testBit j := by
  rw [Nat.add_comm, Nat.mul_comm, Nat.testBit_two_pow_mul_add _ hV, if_neg (by omega), Nat.add_sub_cancel_left]
theorem test_out (V c i : Nat) (hV : V < 2 ^ c) (h : c ≤ i) : V.testBit i = false :=
  Nat.testBit_lt_two_pow (Nat.lt_of_lt_of_le hV (Nat.pow_le_pow_right (by decide) h))
theorem OwnV.lt {w : World} {base n V : Nat} {v : Value} (h : OwnV w base n V v) : ∃ g cap, v = .slice (some ⟨g, 0, none⟩) n cap ∧ base ≤ g ∧ g < w.heap.size ∧ BRow w (some ⟨g, 0, none⟩) n V := by
  obtain ⟨g, cap, rfl, h1⟩ := h
  have := World.ownsRow.lt h1 g (by simp [Value.ownBlock])
  exact ⟨g, cap, rfl, this.1, this.2, OwnV.row h1⟩

theorem own_v_of {w : World} {base c U : Nat} {v : Value} (h : w.ownsRow base 4 1 v c (bvals c U)) (hne : v ≠ .slice none 0 0) : OwnV w base c U v := by
  rcases h.2 with ⟨rfl, _⟩ | ⟨g, cap, cur, rfl, _⟩
  · exact absurd rfl hne
  · exact ⟨g, cap, rfl, h⟩

set_option maxHeartbeats 4000000 in
theorem pieces_any (a : Option Addr) (cap c V : Nat) (hc : c ≤ 100000) (hV : V < 2 ^ c) (x k : Nat) (hx : x < 4294967296) (hk : k ≤ 32) (b : Bool) (w : World) (hr : BRow w a c V) (hnil : a = none → c = 0 ∧ cap = 0) :
    Calls Try.prog 18 #[.slice a c cap, .int .u32 (x : Int), .int .i64 (k : Int), .bool b] w fun e w' => ∃ v, e = .returned v ∧ OwnV w' w.heap.size (c + k) (V + pc x k b * 2 ^ c) v ∧ Below w.heap.size w w' := by
  obtain ⟨U, HU⟩ : ∃ U, Hid (V + pc x k b * 2 ^ c = U) := ⟨_, Lib.hid (Eq.refl _)⟩
  have HV := Lib.hid hV
  have hb0 := (Below.refl w.heap.size w).alloc (Nat.le_refl _) (.cells #[] 4)
  have ho0 := World.ownsRow_made (base := w.heap.size) (e := 4) (size := 1) w #[] 0 (Nat.le_refl _) (Nat.zero_le _) rfl
  have hrr : BRow (w.alloc (.cells #[] 4)) a c U := (hr.below hb0 (Nat.le_refl _)).congr (fun i hi => by rw [← HU.out]; exact joined_low V _ c i hV hi)
  have hbs := hb0.size
  rw [HU.out]
  clear hV hr
  go_enter Try.func18, Try.ntmps18
  go_wp2_with (first
    | (at_builtin; go_must (refine wpList_append_brow rfl (.tmp 12) (.tmp 13) rfl w.heap.size _ 0 U ho0 rfl a c cap U rfl hrr hnil ?_ hbs ?_; omega; intro v' w1 hown1 hg1 hne))
    | fail)
  have hown2 : w1.ownsRow w.heap.size 4 1 v' c (bvals c U) := by simpa [bvals] using hown1
  have HO1 := Lib.hid (own_v_of hown2 (hne.resolve_left (by simp)))
  have HB1 := Lib.hid (hb0.trans (below_grown ho0 hg1 hbs))
  clear hown1 hown2 hne hg1 hb0 ho0 hrr hbs hnil
  go_loopw [9, 10] (fun vo i wr => ∃ j : Nat, j ≤ k ∧ i = .int .i64 (j : Int) ∧ Hid (OwnV wr w.heap.size (c + j) U vo) ∧ Hid (Below w.heap.size w wr)) (fun _ i _ => k - (intOf i).toNat)
  case atStart => exact ⟨0, by omega, rfl, HO1, HB1⟩
  case round =>
    clear HO1 HB1
    obtain ⟨j, hj, rfl, HO, HB⟩ := hrel
    by_cases hlt : j < k
    · have d1 : decide ((j : Int) < (k : Int)) = true := by rw [decide_eq_true_eq]; omega
      obtain ⟨t, Ht⟩ : ∃ t, Hid ((if b then k - 1 - j else j) = t) := ⟨_, Lib.hid (Eq.refl _)⟩
      have htl : t ≤ 31 := by have := Ht.out; split at this <;> omega
      obtain ⟨z, Hz⟩ : ∃ u, Hid (x / 2 ^ t % 2 = u) := ⟨_, Lib.hid (Eq.refl _)⟩
      obtain ⟨y, Hy⟩ : ∃ z, Hid (x / 2 ^ t = z) := ⟨_, Lib.hid (Eq.refl _)⟩
      have hy : (x : Int) / 2 ^ t = (y : Int) := by rw [← Hy.out]; simp
      rw [Hy.out] at Hz
      have hyl : y < 4294967296 := by rw [← Hy.out]; exact Nat.lt_of_le_of_lt (Nat.div_le_self _ _) hx
      have hz1 : (y : Int) % 2 = (z : Int) := by have := Hz.out; omega
      have hz2 : (y : Int).tmod 2 = (z : Int) := by rw [Int.tmod_eq_emod_of_nonneg (by omega)]; exact hz1
      obtain ⟨B, HBt⟩ : ∃ B, Hid (((z : Int) == 1) = B) := ⟨_, Lib.hid (Eq.refl _)⟩
      have hB := HBt.out
      have htest : Hid (U.testBit (c + j) = B) := by
        show _ = _
        rw [← HU.out, joined_high _ _ _ _ HV.out, pc_test x k j b hlt, Ht.out, ← HBt.out, Nat.testBit_eq_decide_div_mod_eq, Hy.out, Hz.out]
        by_cases e : z = 1
        · subst e; rfl
        · rw [decide_eq_false e]
          symm
          simp
          omega
      have hos := HO.out
      have hbsw : w.heap.size ≤ wr.heap.size := HB.out.size
      cases b with
      | false =>
        obtain rfl : j = t := by have := Ht.out; simpa using this
        clear Ht HBt
        go_wp2_with (first
          | (at_builtin; go_must (refine wpList_append_bool wr rfl (.tmp 26) (.tmp 32) rfl w.heap.size _ (c + j) U B hos htest.out rfl rfl rfl ?_ hbsw ?_; omega; intro v2 w2 hown2 hb2))
          | fail)
        have HO2 := Lib.hid hown2
        have HB2 := Lib.hid (HB.out.trans hb2)
        clear hos hown2 hb2 HO HB
        go_wp2_with fail
        go_roundw
        case rel => exact ⟨j + 1, by omega, by go_num, HO2, HB2⟩
        case measure => simp [intOf]; omega
      | true =>
        have et : (k : Int) - 1 - (j : Int) = (t : Int) := by have := Ht.out; simp at this; omega
        clear Ht HBt
        go_wp2_with (first
          | (at_builtin; go_must (refine wpList_append_bool wr rfl (.tmp 26) (.tmp 32) rfl w.heap.size _ (c + j) U B hos htest.out rfl rfl rfl ?_ hbsw ?_; omega; intro v2 w2 hown2 hb2))
          | fail)
        have HO2 := Lib.hid hown2
        have HB2 := Lib.hid (HB.out.trans hb2)
        clear hos hown2 hb2 HO HB
        go_wp2_with fail
        go_roundw
        case rel => exact ⟨j + 1, by omega, by go_num, HO2, HB2⟩
        case measure => simp [intOf]; omega
    · obtain rfl : j = k := by omega
      have d1 : decide ((j : Int) < (j : Int)) = false := by rw [decide_eq_false_iff_not]; omega
      go_wp2_with fail
      go_ret
      exact ⟨_, rfl, HO.out, HB.out⟩
end Go.Proofs.Ytginjnpboggnbaa
