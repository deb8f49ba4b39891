/- bitio's sources: Take. Conditions: texts of at most a hundred million bytes. -/
import Derived.Test.YtahgeeklenojjaaSinkT
namespace Go.Proofs.Ytahgeeklenojjaa
open Go.RowKit
set_option maxRecDepth 100000

/-- The source at block P, of the text s, from bit p on. -/
def SrcAt (w : World) (P : Nat) (s : ByteArray) (p : Nat) : Prop := Blk w P 69 #[.string s, .int .i64 (p : Int)]
/-- The text's number. -/
def num (s : ByteArray) : Nat := leN s.data.toList
/-- k bits from bit p on. -/
def bitsAt (s : ByteArray) (p k : Nat) : Nat := num s / 2 ^ p % 2 ^ k
theorem num_byte (s : ByteArray) (i : Nat) (h : i < s.size) : num s / 256 ^ i % 256 = (s[i]).toNat := by
  unfold num
  rw [leN_byte _ i (by simpa using h)]
  rfl
theorem num_out (s : ByteArray) (i : Nat) (h : ¬ i < s.size) : num s / 256 ^ i % 256 = 0 := leN_out s.data.toList i (by simpa using h)
theorem acc_succ (X q i : Nat) : X / 256 ^ q % 256 ^ (i + 1) = X / 256 ^ q % 256 ^ i + X / 256 ^ (q + i) % 256 * 256 ^ i := by
  rw [Nat.pow_succ, Nat.mod_mul, Nat.div_div_eq_div_mul, ← Nat.pow_add, Nat.mul_comm (256 ^ i)]
theorem mask64 (z k : Nat) (hz : z < 18446744073709551616) (hk : k ≤ 32) : bits .and .u64 (z : Int) ((2 : Int) ^ k - 1) = ((z % 2 ^ k : Nat) : Int) := by
  have hp := pow_pos2 k
  have h6 : 2 ^ k ≤ 2 ^ 32 := Nat.pow_le_pow_right (by decide) hk
  have h7 : (2 : Nat) ^ 32 = 4294967296 := by decide
  have e : (2 : Int) ^ k - 1 = ((2 ^ k - 1 : Nat) : Int) := by
    have : (2 : Int) ^ k = ((2 ^ k : Nat) : Int) := by simp
    omega
  rw [e, u64_and_nat _ _ (by omega) (by omega), and_mask]
theorem take_num (X p k : Nat) (hk : k ≤ 32) : (X / 256 ^ (p / 8) % 256 ^ 5) / 2 ^ (p % 8) % 2 ^ k = X / 2 ^ p % 2 ^ k := by
  have e : X / 2 ^ p = X / 256 ^ (p / 8) / 2 ^ (p % 8) := by
    rw [Nat.div_div_eq_div_mul, pow256, ← Nat.pow_add]
    congr 2
    omega
  rw [e]
  generalize X / 256 ^ (p / 8) = Y
  have h5 : (256 : Nat) ^ 5 = 2 ^ (p % 8) * 2 ^ (40 - p % 8) := by rw [← Nat.pow_add, show p % 8 + (40 - p % 8) = 40 by omega]
  rw [h5, Nat.mod_mul_right_div_self]
  have h6 : (2 : Nat) ^ (40 - p % 8) = 2 ^ k * 2 ^ (40 - p % 8 - k) := by rw [← Nat.pow_add]; congr 1; omega
  rw [h6, Nat.mod_mul_right_mod]

set_option maxHeartbeats 4000000 in
theorem srcTake_any (P : Nat) (s : ByteArray) (p k : Nat) (N : Int) (hN : Clamp N k) (hs : s.size ≤ 100000000) (hp : p ≤ 1000000000) (w : World) (hS : SrcAt w P s p) :
    Calls Try.prog 28 #[.pointer (some ⟨P, 0, none⟩), .int .i64 N] w fun e w' => e = .returned (.int .u32 (bitsAt s p k : Int)) ∧ SrcAt w' P s (p + k) ∧ w.grownBy w' (some P) ∧ w'.heap.size = w.heap.size := by
  have hk : k ≤ 32 := by unfold Clamp at hN; omega
  obtain ⟨M1, hmin, hmax⟩ := clamp_run N k hN
  have c0 := hS.cell 0
  have c1 := hS.cell 1
  have cf := hS.frozen 1
  simp at c0 c1
  have HS := Lib.hid hS
  obtain ⟨q, Hq⟩ : ∃ q, Hid (p / 8 = q) := ⟨_, Lib.hid (Eq.refl _)⟩
  obtain ⟨m, Hm⟩ : ∃ q, Hid (p % 8 = q) := ⟨_, Lib.hid (Eq.refl _)⟩
  have hm8 : m < 8 := by have := Hm.out; omega
  have e1 : (p : Int) / 8 = (q : Int) := by have := Hq.out; omega
  have e2 : (p : Int).tdiv 8 = (q : Int) := by rw [Int.tdiv_eq_ediv_of_nonneg (by omega)]; exact e1
  have e3 : (p : Int) % 8 = (m : Int) := by have := Hm.out; omega
  have e4 : (p : Int).tmod 8 = (m : Int) := by rw [Int.tmod_eq_emod_of_nonneg (by omega)]; exact e3
  have hq : q ≤ 1000000000 := by have := Hq.out; omega
  obtain ⟨R, HR⟩ : ∃ R, Hid (bitsAt s p k = R) := ⟨_, Lib.hid (Eq.refl _)⟩
  have HR2 : Hid ((num s / 256 ^ q % 256 ^ 5) / 2 ^ m % 2 ^ k = R) := by show _ = _; rw [← Hq.out, ← Hm.out, take_num _ _ _ hk]; exact HR.out
  rw [HR.out]
  clear hS hN
  go_enter Try.func28, Try.ntmps28
  go_wp2_with fail
  clear hmin hmax
  go_loop [5, 11] (fun u i => ∃ j A : Nat, j ≤ 5 ∧ i = .int .i64 (j : Int) ∧ u = .int .u64 (A : Int) ∧ A < 256 ^ j ∧ Hid (A = num s / 256 ^ q % 256 ^ j)) (fun _ i => 5 - (intOf i).toNat)
  case atStart => exact ⟨0, 0, by omega, rfl, rfl, by decide, by show _ = _; simp [Nat.mod_one]⟩
  case round =>
    obtain ⟨j, A, hj, rfl, rfl, hA, HA⟩ := hrel
    by_cases hlt : j < 5
    · have h40 : (256 : Nat) ^ (j + 1) ≤ 256 ^ 5 := Nat.pow_le_pow_right (by decide) (by omega)
      have h41 : (256 : Nat) ^ 5 = 1099511627776 := by decide
      have Hacc := Lib.hid (acc_succ (num s) q j)
      have Hlt2 : Hid (num s / 256 ^ q % 256 ^ (j + 1) < 256 ^ (j + 1)) := Nat.mod_lt _ (Nat.pow_pos (by decide))
      by_cases hin : q + j < s.size
      · obtain ⟨c, Hc⟩ : ∃ c, Hid ((s[q + j]).toNat = c) := ⟨_, Lib.hid (Eq.refl _)⟩
        have hcl : c < 256 := by rw [← Hc.out]; exact UInt8.toNat_lt _
        have Hn := Lib.hid ((num_byte s (q + j) hin).trans Hc.out)
        obtain ⟨t, Ht⟩ : ∃ t, Hid (8 * j = t) := ⟨_, Lib.hid (Eq.refl _)⟩
        have ht1 : 8 * (j : Int) = (t : Int) := by have := Ht.out; omega
        have htl : t ≤ 32 := by have := Ht.out; omega
        have hpt : (256 : Nat) ^ j = 2 ^ t := by rw [pow256, Ht.out]
        obtain ⟨E, HE⟩ : ∃ E, Hid (c * 2 ^ t = E) := ⟨_, Lib.hid (Eq.refl _)⟩
        have hEl : A + E < 1099511627776 := by
          have h1 := Hlt2.out
          rw [Hacc.out, ← HA.out, Hn.out, hpt, HE.out] at h1
          omega
        have hw1 : IntKind.u64.wrap ((c : Int) * 2 ^ t) = (E : Int) := by
          have e : (c : Int) * 2 ^ t = ((c * 2 ^ t : Nat) : Int) := by simp
          rw [e, HE.out, IntKind.wrap_u64]; omega
        have hor : bits .or .u64 (A : Int) (E : Int) = ((A + E : Nat) : Int) := by
          rw [u64_or_nat _ _ (by omega) (by omega), ← HE.out, or_add _ _ _ (by rw [← hpt]; exact hA)]
        have HA2 : Hid (A + E = num s / 256 ^ q % 256 ^ (j + 1)) := by show _ = _; rw [Hacc.out, ← HA.out, Hn.out, hpt, HE.out]
        have hin2 : (q : Int) + (j : Int) < (s.size : Int) := by omega
        have hix : ∀ W, (Instr.index 9 (.string s) (.int .i64 ((q : Int) + (j : Int)))).run Try.prog W = .ok (.int .u8 (c : Int)) W := fun W => by
          have e : ((q : Int) + (j : Int)).toNat = q + j := by omega
          rw [run_index_string W 9 s .i64 ((q : Int) + (j : Int)) Try.underlying9, dif_pos ⟨by omega, by omega⟩]
          simp only [e, Hc.out]
        have hA3 : A + E < 256 ^ (j + 1) := by rw [HA2.out]; exact Hlt2.out
        clear hpt hA
        go_wp2_with fail
        go_round
        case rel => exact ⟨j + 1, A + E, by omega, by go_num, by go_num, hA3, HA2⟩
        case measure => simp [intOf]; omega
      · have Hn := Lib.hid (num_out s (q + j) hin)
        have HA2 : Hid (A = num s / 256 ^ q % 256 ^ (j + 1)) := by show _ = _; rw [Hacc.out, ← HA.out, Hn.out]; simp
        have hin2 : ¬ (q : Int) + (j : Int) < (s.size : Int) := by omega
        have hA3 : A < 256 ^ (j + 1) := by rw [HA2.out]; exact Hlt2.out
        go_wp2_with fail
        go_round
        case rel => exact ⟨j + 1, A, by omega, by go_num, rfl, hA3, HA2⟩
        case measure => simp [intOf]; omega
    · obtain rfl : j = 5 := by omega
      have h41 : (256 : Nat) ^ 5 = 1099511627776 := by decide
      rw [h41] at hA
      have hsh : (A : Int) / 2 ^ m = ((A / 2 ^ m : Nat) : Int) := by simp
      have hZl : A / 2 ^ m < 18446744073709551616 := Nat.lt_of_le_of_lt (Nat.div_le_self _ _) (by omega)
      obtain ⟨Z, HZ⟩ : ∃ Z, Hid (A / 2 ^ m = Z) := ⟨_, Lib.hid (Eq.refl _)⟩
      have hmk := mask64 Z k (by rw [← HZ.out]; exact hZl) hk
      have hZR : Z % 2 ^ k = R := by rw [← HZ.out, HA.out]; exact HR2.out
      rw [hZR] at hmk
      rw [HZ.out] at hsh
      have hwk := wrap_pow k hk
      have hRl : R < 4294967296 := by
        rw [← hZR]
        exact Nat.lt_of_lt_of_le (Nat.mod_lt _ (Nat.pow_pos (by decide))) (Nat.le_trans (Nat.pow_le_pow_right (by decide) hk) (by decide))
      have hwr : IntKind.u32.wrap (R : Int) = (R : Int) := by rw [IntKind.wrap_u32]; omega
      have HGs : Hid (∀ n, w.grownBy ((w.drewN n).setCell ⟨P, 1, none⟩ (.int .i64 ((p : Int) + (k : Int)))) (some P)) := fun n =>
        ⟨rfl, rfl, rfl, by simp [World.setCell, World.drewN], fun g hg hne => (heap_setCell_other (w.drewN n) _ _ _ (fun e => hne (by rw [e])))⟩
      have HS2 : Hid (∀ n, SrcAt ((w.drewN n).setCell ⟨P, 1, none⟩ (.int .i64 ((p : Int) + (k : Int)))) P s (p + k)) := by
        intro n
        have HSs := (HS.out.drewN n).set_ 1 (.int .i64 ((p : Int) + (k : Int)))
        show Blk _ _ _ _
        have e : ((p + k : Nat) : Int) = (p : Int) + (k : Int) := by omega
        rw [e]
        simpa using HSs
      have HZs : Hid (∀ n, ((w.drewN n).setCell ⟨P, 1, none⟩ (.int .i64 ((p : Int) + (k : Int)))).heap.size = w.heap.size) := fun n => by simp [World.setCell, World.drewN]
      clear hZR hZl hA h41
      go_wp2_with fail
      go_quiet (fail)
      all_goals
        go_wp2_with fail
        go_ret
        exact ⟨rfl, HS2.out _, HGs.out _, HZs.out _⟩
end Go.Proofs.Ytahgeeklenojjaa
