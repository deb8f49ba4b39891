/- The document's words of 32 bits: Of. Conditions: none. -/
import Derived.Test.YtbccljpbnbobmaaShaL
import Derived.Deep.WholeRow
namespace Go.Proofs.Ytbccljpbnbobmaa
open Go.RowKit
set_option maxRecDepth 100000

/-- n truths as cells. -/
def tval (f : Nat → Bool) (i : Nat) : Value := .bool (f i)
theorem tcells2_at (n : Nat) (f : Nat → Bool) (j : Nat) (hj : j < n) : (fcells n (tval f))[j]? = some (.bool (f j)) := fcells_at n _ j hj
theorem tcells2_set (n : Nat) (f : Nat → Bool) (j : Nat) (v : Bool) : (fcells n (tval f)).setIfInBounds j (.bool v) = fcells n (tval fun i => if i = j then v else f i) := by
  rw [fcells_set]
  refine fcells_congr _ _ _ fun i hi => ?_
  unfold tval
  by_cases h : i = j
  · simp only [h, if_true]
  · simp only [h, if_false]
/-- A number's 32 bits, the highest first. -/
def wbit (x : Nat) (i : Nat) : Bool := (x / 2 ^ (31 - i)) % 2 == 1
def wordV (x : Nat) : Value := .agg (fcells 32 (tval (wbit x)))
theorem zero_word (w : World) : (zeroValue 69).run Try.prog w = .ok (.agg (fcells 32 (tval fun _ => false))) w := by kernel_rfl
theorem info_word : (Try.prog.info? 69).map (·.size) = some 32 := by kernel_rfl
theorem tcells2_one (n : Nat) (f : Nat → Bool) : (fcells n (tval f)).all (·.oneCell') = true := by
  rw [Array.all_eq_true_iff_forall_mem]
  intro v hv
  unfold fcells at hv
  simp only [List.mem_toArray, List.mem_map] at hv
  obtain ⟨i, _, rfl⟩ := hv
  rfl
/-- What stands there when k bits have been laid. -/
def ofBits (x k : Nat) (j : Nat) : Bool := if 32 ≤ j + k then wbit x j else false
theorem ofBits_zero (x : Nat) : fcells 32 (tval fun _ => false) = fcells 32 (tval (ofBits x 0)) := by
  refine fcells_congr _ _ _ fun i hi => ?_
  unfold tval ofBits
  rw [if_neg (by omega)]
theorem ofBits_succ (x k : Nat) (hk : k < 32) : fcells 32 (tval fun i => if i = 31 - k then (x / 2 ^ k % 2 == 1) else ofBits x k i) = fcells 32 (tval (ofBits x (k + 1))) := by
  refine fcells_congr _ _ _ fun i hi => ?_
  unfold tval ofBits
  by_cases h : i = 31 - k
  · have e : 31 - i = k := by omega
    have h2 : 32 ≤ i + (k + 1) := by omega
    simp only [h, if_true]
    rw [if_pos (by omega)]
    unfold wbit
    have e2 : 31 - (31 - k) = k := by omega
    rw [e2]
  · simp only [h, if_false]
    by_cases h2 : 32 ≤ i + k
    · rw [if_pos h2, if_pos (by omega)]
    · rw [if_neg h2, if_neg (by omega)]
theorem ofBits_all (x : Nat) : fcells 32 (tval (ofBits x 32)) = fcells 32 (tval (wbit x)) := by
  refine fcells_congr _ _ _ fun i hi => ?_
  unfold tval ofBits
  rw [if_pos (by omega)]
theorem half_pow (x k : Nat) : x / 2 ^ k / 2 = x / 2 ^ (k + 1) := by rw [Nat.div_div_eq_div_mul, Nat.pow_succ]

set_option maxHeartbeats 4000000 in
theorem of_any (x : Nat) (hx : x < 18446744073709551616) (w : World) :
    Calls Try.prog 47 #[.int .u64 (x : Int)] w fun e w' => e = .returned (wordV x) ∧ Below w.heap.size w w' := by
  have hz := zero_word
  obtain ⟨Z, HZ⟩ : ∃ z, Hid (fcells 32 (tval fun _ => false) = z) := ⟨_, Lib.hid (Eq.refl _)⟩
  have hZs : Z.size = 32 := by rw [← HZ.out, fcells_size]
  have hZ1 : Z.all (·.oneCell') = true := by rw [← HZ.out]; exact tcells2_one _ _
  have hiZ : (Try.prog.info? 69).map (·.size) = some Z.size := by rw [info_word, hZs]
  rw [HZ.out] at hz
  have hsc := run_storeCells_new (P := Try.prog) (w.alloc (.cells Z 69)) 69 Z Z hiZ rfl hZ1
  have hsz : (w.alloc (.cells Z 69)).heap.size = w.heap.size + 1 := by simp
  rw [hsz] at hsc
  have hb0 := ((Below.refl w.heap.size w).alloc (Nat.le_refl _) (.cells Z 69)).alloc (by simp) (.cells Z 69)
  have hB := Blk.new (w.alloc (.cells Z 69)) 69 Z
  have hR := (Blk.new w 69 Z).alloc (.cells Z 69)
  rw [hsz] at hB
  have HB := Lib.hid hb0
  have HW := Lib.hid hB
  have HR := Lib.hid hR
  have HZs := Lib.hid hZs
  have HZ1 := Lib.hid hZ1
  clear hb0 hB hR hiZ hZ1
  go_enter Try.func47, Try.ntmps47
  go_upto_region 3 with (fail)
  obtain ⟨w0, Hw0⟩ : ∃ W, Hid ((w.alloc (.cells Z 69)).alloc (.cells Z 69) = W) := ⟨_, Lib.hid (Eq.refl _)⟩
  rw [Hw0.out] at HB HW HR ⊢
  obtain ⟨A0, HA0⟩ : ∃ q, Hid (w.heap.size = q) := ⟨_, Lib.hid (Eq.refl _)⟩
  obtain ⟨B0, HB0⟩ : ∃ q, Hid (A0 + 1 = q) := ⟨_, Lib.hid (Eq.refl _)⟩
  have hAB : A0 < B0 := by have := HB0.out; omega
  have HwA : Hid (w.heap.size ≤ A0) := Nat.le_of_eq HA0.out
  rw [HA0.out] at HW HR ⊢
  rw [HB0.out] at HW ⊢
  have HW1 : Hid (Blk w0 B0 69 (fcells 32 (tval (ofBits x 0)))) := by show Blk _ _ _ _; rw [← ofBits_zero, HZ.out]; exact HW.out
  clear hz hsc hsz Hw0 HB0 HA0 HW hZs
  go_loopw [0, 4] (fun x_ i_ wr => ∃ (k y : Nat) (I : Int), k ≤ 32 ∧ x_ = .int .u64 (y : Int) ∧ i_ = .int .i64 I ∧ Hid (I = 31 - (k : Int)) ∧ Hid (y = x / 2 ^ k) ∧ y < 18446744073709551616 ∧ Hid (Blk wr B0 69 (fcells 32 (tval (ofBits x k)))) ∧ Hid (Blk wr A0 69 Z) ∧ Hid (Below w.heap.size w wr)) (fun _ i _ => (intOf i + 1).toNat)
  case atStart => exact ⟨0, x, 31, by omega, rfl, rfl, rfl, by show _ = _; rw [Nat.pow_zero, Nat.div_one], hx, HW1, HR, HB⟩
  case round =>
    clear HW1 HR HB
    obtain ⟨k, y, I, hk, rfl, rfl, HI, Hy, hy, HWr, HRr, HBr⟩ := hrel
    by_cases hlt : k < 32
    · obtain ⟨J, HJ⟩ : ∃ j : Nat, Hid (31 - k = j) := ⟨_, Lib.hid (Eq.refl _)⟩
      have hIJ : I = (J : Int) := by have := HI.out; have := HJ.out; omega
      subst hIJ
      have hJ : J < 32 := by have := HJ.out; omega
      have hJI : (J : Int) < 32 := by omega
      have hJw : IntKind.i64.wrap (J : Int) = (J : Int) := by rw [IntKind.wrap_i64]; omega
      have hfz := HWr.out.frozen J
      have hci := HWr.out.cell J
      rw [tcells2_at _ _ _ hJ] at hci
      obtain ⟨D, HD⟩ : ∃ D : Bool, Hid ((y % 2 == 1) = D) := ⟨_, Lib.hid (Eq.refl _)⟩
      have hDI : ((y : Int) % 2 == 1) = D := by rw [← HD.out, Bool.eq_iff_iff]; simp; omega
      have hDN := HD.out
      have hs1 := HWr.out.set_ J (.bool D)
      rw [tcells2_set] at hs1
      have e : (fun i => if i = J then D else ofBits x k i) = fun i => if i = 31 - k then (x / 2 ^ k % 2 == 1) else ofBits x k i := by
        rw [HJ.out, ← HD.out, Hy.out]
      rw [e, ofBits_succ x k hlt] at hs1
      have HS1 := Lib.hid hs1
      have Hyn : Hid (y / 2 = x / 2 ^ (k + 1)) := by show _ = _; rw [Hy.out, half_pow]
      clear hs1 e HD
      go_wp2_with fail
      (try go_region)
      all_goals
        go_wp2_with fail
        go_roundw
        case rel => exact ⟨k + 1, y / 2, (J : Int) - 1, by omega, by go_num, by go_num, by show _ = _; have := HI.out; omega, Hyn, by omega, HS1.out, HRr.out.far (p := ⟨B0, J, none⟩) (by simp; omega) _, HBr.out.setCell (p := ⟨B0, J, none⟩) (by have := HwA.out; simp; omega) _⟩
        case measure => simp [intOf]
    · have hk32 : k = 32 := by omega
      have dI : decide ((0 : Int) ≤ I) = false := by rw [decide_eq_false_iff_not, HI.out]; omega
      rw [hk32, ofBits_all] at HWr
      obtain ⟨U, HU⟩ : ∃ u, Hid (fcells 32 (tval (wbit x)) = u) := ⟨_, Lib.hid (Eq.refl _)⟩
      rw [HU.out] at HWr
      have hUs : U.size = 32 := by rw [← HU.out, fcells_size]
      have hT2 : wr.heap[B0]? = some (.cells U 69 (0, 0)) := HWr.out
      have hR2 : wr.heap[A0]? = some (.cells Z 69 (0, 0)) := HRr.out
      have hi : (Try.prog.info? 69).map (·.size) = some U.size := by rw [info_word, hUs]
      have hsz : Z.size = U.size := by rw [HZs.out, hUs]
      have h1c : U.all (·.oneCell') = true := by rw [← HU.out]; exact tcells2_one _ _
      clear hUs hk32 hlt hk
      go_wp2_with (first
        | (with_reducible refine wpList_load_row rfl 69 _ rfl B0 rfl 69 U (0, 0) _ hT2 Try.underlying69 rfl hi ?_)
        | (with_reducible refine wpList_store_row rfl 69 _ _ rfl A0 U rfl rfl 69 Z hR2 hi hsz h1c ?_))
      (try simp only [Exit.inBlock, Exit.then])
      refine bodyPost_ret (v := .agg U) (results_cell_row rfl _ _ A0 69 U (0, 0) _ rfl (setRow_heap _ _ _ _ _ _ hR2) Try.underlying69 rfl hi) rfl ?_
      refine ⟨?_, below_setRow HBr.out HwA.out _⟩
      unfold wordV
      rw [HU.out]
end Go.Proofs.Ytbccljpbnbobmaa
