/- The document's row of bits of a text. Conditions: at most a hundred thousand bytes. -/
import Derived.Test.YtginjnpboggnbaaRef3
import Derived.StillTailTactics
namespace Go.Proofs.Ytginjnpboggnbaa
open Go.RowKit
set_option maxRecDepth 100000

def tcell (X k i : Nat) : Value := .bool (decide (i < k) && X.testBit i)
theorem made_bools3 (n : Nat) (hn : n ≤ 1000000) (I : Int) (hI : I = (n : Int)) (w : World) :
    (Instr.makeSlice 38 (.int .i64 I) (.int .i64 I)).run Try.prog w = .ok (.slice (some ⟨w.heap.size, 0, none⟩) n n) (w.alloc (.cells (fcells n fun _ => .bool false) 4)) :=
  run_make_f (t := 38) (e := 4) Try.underlying38 info_bool rfl n I hI (by omega) (by omega) w

/-- A bit of the text's number is one of its byte. -/
theorem num_bit (s : ByteArray) (k q m : Nat) (hq : k / 8 = q) (hm : k % 8 = m) (h : q < s.size) : (num s).testBit k = (s[q]).toNat.testBit m := by
  subst hq hm
  rw [← num_byte s (k / 8) h, pow256, show (256 : Nat) = 2 ^ 8 by decide, Nat.testBit_mod_two_pow, Nat.testBit_div_two_pow, decide_eq_true (show k % 8 < 8 by omega), Bool.true_and]
  congr 1
  omega

theorem band_bit : ∀ c : Nat, c < 256 → ∀ m : Nat, m < 8 → decide (0 < bits .and .u8 (c : Int) ((2 ^ m : Nat) : Int)) = c.testBit m := by decide +kernel

theorem row_any (s : ByteArray) (hs : s.size ≤ 100000) (w : World) :
    Calls Try.prog 25 #[.string s] w fun e w' => e = .returned (.slice (some ⟨w.heap.size, 0, none⟩) (8 * s.size) (8 * s.size)) ∧ BRow w' (some ⟨w.heap.size, 0, none⟩) (8 * s.size) (num s) ∧ Below w.heap.size w w' := by
  obtain ⟨N, HN⟩ : ∃ N, Hid (8 * s.size = N) := ⟨_, Lib.hid (Eq.refl _)⟩
  have eN : 8 * (s.size : Int) = (N : Int) := by have := HN.out; omega
  have hN : N ≤ 800000 := by have := HN.out; omega
  have hmk := made_bools3 N (by omega) (N : Int) rfl w
  obtain ⟨X, HX⟩ : ∃ X, Hid (num s = X) := ⟨_, Lib.hid (Eq.refl _)⟩
  obtain ⟨G, HG⟩ : ∃ P, Hid (w.heap.size = P) := ⟨_, Lib.hid (Eq.refl _)⟩
  have hB0 := Blk.new w 4 (fcells N fun _ => .bool false)
  have hb0 := (Below.refl w.heap.size w).alloc (Nat.le_refl _) (.cells (fcells N fun _ => .bool false) 4)
  rw [fcells_congr N (fun _ => Value.bool false) (tcell X 0) (fun i hi => by unfold tcell; simp), HG.out] at hB0
  rw [fcells_congr N (fun _ => Value.bool false) (tcell X 0) (fun i hi => by unfold tcell; simp)] at hb0 hmk
  have HB0 := Lib.hid hB0
  have Hb0 := Lib.hid hb0
  rw [HG.out] at hmk
  rw [HN.out, HX.out]
  clear hB0 hb0
  go_enter Try.func25, Try.ntmps25
  go_wp2_with fail
  obtain ⟨w1, HW1⟩ : ∃ W, Hid (w.alloc (.cells (fcells N (tcell X 0)) 4) = W) := ⟨_, Lib.hid (Eq.refl _)⟩
  rw [HW1.out] at HB0 Hb0 ⊢
  clear hmk HW1
  go_loopw [11] (fun i wr => ∃ k : Nat, k ≤ N ∧ i = .int .i64 (k : Int) ∧ Hid (Blk wr G 4 (fcells N (tcell X k))) ∧ Hid (Below w.heap.size w wr)) (fun i _ => N - (intOf i).toNat)
  case atStart => exact ⟨0, by omega, rfl, HB0, Hb0⟩
  case round =>
    clear HB0 Hb0
    obtain ⟨k, hk, rfl, HB, Hb⟩ := hrel
    by_cases hlt : k < N
    · have d1 : decide ((k : Int) < (N : Int)) = true := by rw [decide_eq_true_eq]; omega
      obtain ⟨q, Hq⟩ : ∃ q, Hid (k / 8 = q) := ⟨_, Lib.hid (Eq.refl _)⟩
      obtain ⟨m, Hm⟩ : ∃ q, Hid (k % 8 = q) := ⟨_, Lib.hid (Eq.refl _)⟩
      have hql : q < s.size := by have := HN.out; have := Hq.out; omega
      have hnb := num_bit s k q m Hq.out Hm.out hql
      rw [HX.out] at hnb
      obtain ⟨c, Hc⟩ : ∃ c, Hid ((s[q]).toNat = c) := ⟨_, Lib.hid (Eq.refl _)⟩
      have hcl : c < 256 := by rw [← Hc.out]; exact UInt8.toNat_lt _
      rw [Hc.out] at hnb
      have hm8 : m < 8 := by have := Hm.out; omega
      have e1 : (k : Int) / 8 = (q : Int) := by have := Hq.out; omega
      have e2 : (k : Int).tdiv 8 = (q : Int) := by rw [Int.tdiv_eq_ediv_of_nonneg (by omega)]; exact e1
      have e3 : (k : Int) % 8 = (m : Int) := by have := Hm.out; omega
      have e4 : (k : Int).tmod 8 = (m : Int) := by rw [Int.tmod_eq_emod_of_nonneg (by omega)]; exact e3
      have hix : ∀ W, (Instr.index 9 (.string s) (.int .i64 (q : Int))).run Try.prog W = .ok (.int .u8 (c : Int)) W := fun W => by
        have e : ((q : Int)).toNat = q := by omega
        rw [run_index_string W 9 s .i64 (q : Int) Try.underlying9, dif_pos ⟨by omega, by omega⟩]
        simp only [e, Hc.out]
      have hfz := HB.out.frozen k
      obtain ⟨B, HBt⟩ : ∃ B, Hid (X.testBit k = B) := ⟨_, Lib.hid (Eq.refl _)⟩
      obtain ⟨M, HM⟩ : ∃ M, Hid (2 ^ m = M) := ⟨_, Lib.hid (Eq.refl _)⟩
      have hM : (2 : Int) ^ m % 256 = (M : Int) := by
        have h1 : 2 ^ m ≤ 2 ^ 7 := Nat.pow_le_pow_right (by decide) (by omega)
        have h2 : (2 : Nat) ^ 7 = 128 := by decide
        have h3 : ((2 : Int) ^ m) = ((2 ^ m : Nat) : Int) := by simp
        rw [h3, HM.out]
        rw [HM.out] at h1
        omega
      have hD : decide (0 < bits .and .u8 (c : Int) (M : Int)) = B := by
        rw [← HM.out, band_bit c hcl m hm8, ← hnb, HBt.out]
      have hcell := HB.out.cell k
      rw [fcells_at _ _ _ hlt] at hcell
      have HB2 : Hid (∀ n, Blk ((wr.drewN n).setCell ⟨G, k, none⟩ (.bool B)) G 4 (fcells N (tcell X (k + 1)))) := by
        intro n
        have h := (HB.out.drewN n).set_ k (.bool B)
        rw [fcells_set] at h
        rw [fcells_congr N (tcell X (k + 1)) (fun i => if i = k then .bool B else tcell X k i)]
        · exact h
        · intro i hi
          unfold tcell
          by_cases e : i = k
          · subst e
            rw [if_pos rfl, HBt.out, decide_eq_true (by omega), Bool.true_and]
          · rw [if_neg e]
            by_cases e2 : i < k
            · rw [decide_eq_true e2, decide_eq_true (show i < k + 1 by omega)]
            · rw [decide_eq_false e2, decide_eq_false (show ¬ i < k + 1 by omega)]
      have Hb2 : Hid (∀ n, Below w.heap.size w ((wr.drewN n).setCell ⟨G, k, none⟩ (.bool B))) := fun n => (below_drewN Hb.out n).setCell (by rw [HG.out]; exact Nat.le_refl _) _
      clear hnb hcl
      go_wp2_with fail
      go_region
      all_goals
        go_wp2_with fail
        go_roundw
        case rel => exact ⟨k + 1, by omega, by go_num, HB2.out 1, Hb2.out 1⟩
        case measure => simp [intOf]; omega
    · obtain rfl : k = N := by omega
      have d1 : decide ((k : Int) < (k : Int)) = false := by rw [decide_eq_false_iff_not]; omega
      have hR : BRow wr (some ⟨G, 0, none⟩) k X := by
        refine .inr ⟨G, 0, rfl, HB.out.lt, fun i hi => ?_⟩
        rw [HB.out.cell (0 + i), Nat.zero_add, fcells_at _ _ _ hi]
        unfold tcell bval
        rw [decide_eq_true hi, Bool.true_and]
      have HR := Lib.hid hR
      clear hR
      go_wp2_with fail
      go_ret
      exact ⟨by rw [HG.out]; rfl, by rw [HG.out]; exact HR.out, Hb.out⟩
end Go.Proofs.Ytginjnpboggnbaa
