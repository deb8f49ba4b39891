/- bits.Var and the document's Var: a number in groups of seven bits, the lowest first. Conditions: none. -/
import Derived.Test.YtbccljpbnbobmaaBase
namespace Go.Proofs.Ytbccljpbnbobmaa
open Go.RowKit

/-- The groups of seven bits. -/
def varL (x : Nat) : List UInt8 := if x < 128 then [UInt8.ofNat x] else UInt8.ofNat (x % 128 + 128) :: varL (x / 128)
termination_by x
decreasing_by omega

theorem varL_small (x : Nat) (h : x < 128) : varL x = [UInt8.ofNat x] := by rw [varL, if_pos h]
theorem varL_big (x : Nat) (h : ¬ x < 128) : varL x = UInt8.ofNat (x % 128 + 128) :: varL (x / 128) := by rw [varL, if_neg h]

theorem varL_len (n : Nat) : ∀ x, x < 128 ^ (n + 1) → (varL x).length ≤ n + 1 := by
  induction n with
  | zero => intro x h; rw [varL_small x (by simpa using h)]; simp
  | succ n ih =>
    intro x h
    by_cases hx : x < 128
    · rw [varL_small x hx]; simp
    · rw [varL_big x hx]
      have := ih (x / 128) (by rw [Nat.div_lt_iff_lt_mul (by decide)]; rw [Nat.pow_succ] at h; exact h)
      simp only [List.length_cons]; omega

theorem varL_pos (x : Nat) : 1 ≤ (varL x).length := by
  by_cases hx : x < 128
  · rw [varL_small x hx]; simp
  · rw [varL_big x hx]; simp

theorem varL_ten (x : Nat) (h : x < 18446744073709551616) : (varL x).length ≤ 10 := varL_len 9 x (Nat.lt_of_lt_of_le h (by decide))

set_option maxRecDepth 100000 in
theorem or128 (x : Nat) : bits .or .u8 ((x : Int) % 256) 128 = (x : Int) % 128 + 128 := by
  have h1 : (x : Int) % 256 = ((x % 256 : Nat) : Int) := by omega
  have h2 : ∀ a : Nat, a < 256 → a ||| 128 = a % 128 + 128 := by decide
  have h3 := u8_or_nat (x % 256) 128 (by omega) (by omega)
  rw [h1]
  refine h3.trans ?_
  rw [h2 _ (by omega)]
  omega

set_option maxRecDepth 100000 in
theorem var_any (x : Nat) (hx : x < 18446744073709551616) (w : World) :
    Calls Try.prog 24 #[.int .u64 (x : Int)] w fun e w' => e = .returned (.string ⟨(varL x).toArray⟩) ∧ Below w.heap.size w w' := by
  have hten := varL_ten x hx
  go_enter Try.func24, Try.ntmps24
  go_wp2
  go_loopw [0, 3] (fun y v wr => ∃ (k : Nat) (l : List UInt8), k < 18446744073709551616 ∧ y = .int .u64 (k : Int) ∧ l ++ varL k = varL x ∧ OwnB wr w.heap.size v l ∧ Below w.heap.size w wr)
    (fun y _ _ => (intOf y).toNat)
  case atStart => exact ⟨x, [], hx, rfl, rfl, OwnB.nil _ _, Below.refl _ _⟩
  case round =>
    obtain ⟨k, l, hk, rfl, hl, hown, hb⟩ := hrel
    have hlen : l.length < 140737488355328 := by
      have := congrArg List.length hl
      simp at this; omega
    have hl2 := Lib.hid hl
    clear hl
    have hbs := hb.size
    by_cases hlt : k < 128
    · have hs := Lib.hid (varL_small k hlt)
      go_wp2_with (at_builtin; go_must (refine wpList_append_byte _ rfl _ _ rfl w.heap.size _ l _ hown rfl rfl rfl ?_ ?_ hlen hbs ?_; omega; omega; intro v' w1 hown1 hb1; have hs1 := run_string_own w1 _ _ _ hown1))
      go_ret
      exact ⟨ret_str (by rw [← hl2.out, hs.out]), hb.trans hb1⟩
    · have hs := Lib.hid (varL_big k hlt)
      have ho := or128 k
      go_wp2_with (at_builtin; go_must (refine wpList_append_byte _ rfl _ _ rfl w.heap.size _ l _ hown rfl rfl rfl ?_ ?_ hlen hbs ?_; omega; omega; intro v' w1 hown1 hb1))
      go_roundw
      case rel =>
        have e1 : ((k : Int) % 128 + 128).toNat = k % 128 + 128 := by omega
        rw [e1] at hown1
        exact ⟨k / 128, _, by omega, by go_num, by rw [← hl2.out, hs.out, List.append_assoc]; rfl, hown1, hb.trans hb1⟩
      case measure => simp [intOf]; omega

set_option maxRecDepth 100000 in
theorem refVar_any (x : Nat) (hx : x < 18446744073709551616) (w : World) :
    Calls Try.prog 27 #[.int .u64 (x : Int)] w fun e w' => e = .returned (.string ⟨(varL x).toArray⟩) ∧ Below w.heap.size w w' := by
  have hten := varL_ten x hx
  have h1 := OwnB.one w w.heap.size (Nat.le_refl _) ((x : Int) % 128) (by omega) (by omega)
  go_enter Try.func27, Try.ntmps27
  go_wp2
  go_loopw [0, 3] (fun y v wr => ∃ (k : Nat) (l : List UInt8) (c : Nat) (g cap : Nat), k < 18446744073709551616 ∧ y = .int .u64 (k : Int) ∧ c < 128 ∧ l ++ varL (c + 128 * k) = varL x ∧ v = .slice (some ⟨g, 0, none⟩) (l.length + 1) cap ∧
      w.heap.size ≤ g ∧ OwnB wr w.heap.size v (l ++ [UInt8.ofNat c]) ∧ Below w.heap.size w wr)
    (fun y _ _ => (intOf y).toNat)
  case atStart =>
    refine ⟨x / 128, [], x % 128, _, _, by omega, by go_num, by omega, by rw [show x % 128 + 128 * (x / 128) = x by omega]; rfl, rfl, Nat.le_refl _, ?_, (Below.refl _ _).alloc (Nat.le_refl _) _⟩
    have e1 : ((x : Int) % 128).toNat = x % 128 := by omega
    rw [e1] at h1
    exact h1
  case round =>
    obtain ⟨k, l, c, g, cap, hk, rfl, hc, hl, rfl, hg, hown, hb⟩ := hrel
    have hlen : l.length ≤ 10 := by
      have := congrArg List.length hl
      simp at this; omega
    have hl2 := Lib.hid hl
    clear hl
    have hbs := hb.size
    by_cases hlt : k = 0
    · subst hlt
      have hs := Lib.hid (varL_small (c + 128 * 0) hc)
      have hs1 := run_string_own wr _ _ _ hown
      go_wp2
      go_ret
      exact ⟨ret_str (by rw [← hl2.out, hs.out]; rfl), hb⟩
    · have hc1 := hown.cell l.length (by simp)
      have hc2 := hown.free l.length
      have hc3 : ((l ++ [UInt8.ofNat c])[l.length]'(by simp)).toNat = c := by
        simp
        omega
      rw [hc3] at hc1
      clear hc3
      have hst := hown.set l.length ((c : Int) + 128) (by omega) (by omega)
      have hbst := (Below.refl w.heap.size wr).setCell (p := ⟨g, l.length, none⟩) hg (.int .u8 ((c : Int) + 128))
      rw [List.set_append_right _ _ (Nat.le_refl _)] at hst
      simp only [Nat.sub_self, List.set_cons_zero] at hst
      have hbig := Lib.hid (varL_big (c + 128 * k) (by omega))
      go_wp2_with (at_builtin; go_must (refine wpList_append_byte _ rfl _ _ rfl w.heap.size _ _ _ hst rfl rfl ?_ ?_ ?_ ?_ ?_ ?_; simp; omega; omega; simp; omega; simp; omega; intro v' w1 hown1 hb1))
      go_roundw
      case rel =>
        have e1 : ((c : Int) + 128).toNat = (c + 128 * k) % 128 + 128 := by omega
        have e2 : ((k : Int) % 128).toNat = k % 128 := by omega
        rw [e1, e2] at hown1
        obtain ⟨g', cap', hv, hg'⟩ := hown1.form (by simp)
        have e3 : (c + 128 * k) / 128 = k % 128 + 128 * (k / 128) := by omega
        refine ⟨k / 128, l ++ [UInt8.ofNat ((c + 128 * k) % 128 + 128)], k % 128, g', cap', by omega, by go_num, by omega, ?_, ?_, hg', hown1, (hb.trans hbst).trans hb1⟩
        · rw [← e3, ← hl2.out, hbig.out, List.append_assoc]; rfl
        · rw [hv]; simp
      case measure => simp [intOf]; omega
end Go.Proofs.Ytbccljpbnbobmaa
