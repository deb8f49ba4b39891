/- slices.Repeat of one int. Conditions: 1 to 1000 times. -/
import Derived.Test.YtjnglahjngiofaaMul1
import Derived.Test.YtjnglahjngiofaaIRow
import Derived.Laws.CopyOwn
import Derived.Deep.RegionLaw
namespace Go.Proofs.Ytjnglahjngiofaa
open Go.RowKit
set_option maxRecDepth 100000

theorem mul_one (c : Nat) (hc : c < 4294967296) (w : World) : Calls Try.prog 80 #[.int .u64 1, .int .u64 (c : Int)] w fun e w' => e = .returned (.tuple #[.int .u64 0, .int .u64 (c : Int)]) ∧ w = w' := by
  have C := Lib.hid (fun W => mul64_one c hc W)
  have h4 : (c : Int) % 18446744073709551616 = (c : Int) := by omega
  go_enter Try.func80, Try.ntmps80
  go_wp2_with fail
  refine (C.out _).mono ?_
  rintro e w1 ⟨rfl, rfl⟩
  go_wp2_with fail
  go_ret2
  exact ⟨rfl, rfl⟩

/-- c cells: n times v, then noughts. -/
def rl (c : Nat) (v : Int) (n : Nat) : List Value := (List.range c).map fun j => .int .i64 (if j < n then v else 0)
theorem rl_length (c : Nat) (v : Int) (n : Nat) : (rl c v n).length = c := by simp [rl]
theorem rl_at (c : Nat) (v : Int) (n j : Nat) (h : j < c) : (rl c v n)[j]? = some (.int .i64 (if j < n then v else 0)) := by simp [rl, h]
theorem rl_splice (c : Nat) (v : Int) (n q : Nat) (h : n + q ≤ c) : splice (rl c v n) n (List.replicate q (.int .i64 v)) = rl c v (n + q) := by
  apply List.ext_getElem?
  intro j
  unfold splice
  by_cases h1 : j < n
  · rw [List.getElem?_append_left (by rw [List.length_take, rl_length]; omega), List.getElem?_take_of_lt h1, rl_at _ _ _ _ (by omega), rl_at _ _ _ _ (by omega), if_pos h1, if_pos (by omega)]
  · rw [List.getElem?_append_right (by rw [List.length_take, rl_length]; omega), List.length_take, rl_length, Nat.min_eq_left (by omega)]
    by_cases h2 : j < n + q
    · rw [List.getElem?_append_left (by rw [List.length_replicate]; omega), rl_at _ _ _ _ (by omega), if_pos h2, List.getElem?_replicate, if_pos (by omega)]
    · rw [List.getElem?_append_right (by rw [List.length_replicate]; omega), List.length_replicate, List.getElem?_drop]
      rw [show n + q + (j - n - q) = j by omega]
      by_cases h3 : j < c
      · rw [rl_at _ _ _ _ h3, rl_at _ _ _ _ h3, if_neg h1, if_neg h2]
      · rw [List.getElem?_eq_none (by rw [rl_length]; omega), List.getElem?_eq_none (by rw [rl_length]; omega)]
theorem rl_first (c : Nat) (v : Int) (h : 1 ≤ c) : splice (rl c v 0) 0 [.int .i64 v] = rl c v 1 := by
  have := rl_splice c v 0 1 (by omega)
  simpa using this
theorem size_int : (Try.prog.info? 3).map (·.size) = some 1 := by kernel_rfl

/-- copy within or into such a row. -/
theorem copy_rl (c : Nat) (v : Int) (n q G : Nat) (h : n + q ≤ c) (dLen dCap sLen sCap : Nat) (hq : Nat.min sLen dLen = q) (b off : Nat) (w W : World) (hG : Blk W G 3 (rl c v n).toArray) (hb : Below w.heap.size w W) (hwG : w.heap.size ≤ G)
    (hs : ∀ j, j < q → W.cell? ⟨b, off + j, none⟩ = some (.int .i64 v)) :
    ∃ W2, (Builtin.copy_ #[22, 22] 3 #[.slice (some ⟨G, n, none⟩) dLen dCap, .slice (some ⟨b, off, none⟩) sLen sCap]).run Try.prog W = .ok (.int .i64 (q : Int)) W2 ∧ Blk W2 G 3 (rl c v (n + q)).toArray ∧ Below w.heap.size w W2 := by
  have hrun := run_copy_row (P := Try.prog) W 22 22 3 3 G n dLen dCap ⟨b, off, none⟩ sLen sCap (rl c v n).toArray 3 (List.replicate q (.int .i64 v)) Try.underlying22 size_int hG (by rw [List.length_replicate, hq])
    (by
      intro j u hj
      have hjq : j < q := by
        have := (List.getElem?_eq_some_iff.1 hj).1
        simpa using this
      have e : (⟨b, off, none⟩ : Addr).add j = ⟨b, off + j, none⟩ := by unfold Addr.add; split <;> simp_all
      rw [e, hs j hjq]
      rw [List.getElem?_replicate, if_pos hjq] at hj
      exact hj)
    (by simp [rl_length]; omega) (by intro u hu; rw [List.eq_of_mem_replicate hu]; rfl)
  have e : ((rl c v n).toArray.toList.take n ++ List.replicate q (.int .i64 v) ++ (rl c v n).toArray.toList.drop (n + (List.replicate q (Value.int .i64 v)).length)) = rl c v (n + q) := by
    rw [← rl_splice c v n q h, List.append_assoc]
    rfl
  rw [e, List.length_replicate] at hrun
  exact ⟨_, hrun, setRow_heap W G _ _ 3 _ hG, below_setRow hb hwG _⟩

set_option maxHeartbeats 4000000 in
theorem repeat_any (v : Int) (c : Nat) (h1 : 1 ≤ c) (h2 : c ≤ 1000) (b off cap : Nat) (w : World) (hc : w.cell? ⟨b, off, none⟩ = some (.int .i64 v)) :
    Calls Try.prog 60 #[.slice (some ⟨b, off, none⟩) 1 cap, .int .i64 (c : Int)] w fun e w' => e = .returned (.slice (some ⟨w.heap.size, 0, none⟩) c c) ∧ Blk w' w.heap.size 3 (rl c v c).toArray ∧ Below w.heap.size w w' := by
  have CM := Lib.hid (fun W => mul_one c (by omega) W)
  have d0 : decide ((c : Int) < 0) = false := by rw [decide_eq_false_iff_not]; omega
  have d1 : decide ((9223372036854775807 : Int) < (c : Int)) = false := by rw [decide_eq_false_iff_not]; omega
  have d1b : decide (9223372036854775807 < c) = false := by rw [decide_eq_false_iff_not]; omega
  have h4 : (c : Int) % 18446744073709551616 = (c : Int) := by omega
  have hw : IntKind.i64.wrap (c : Int) = (c : Int) := IntWalk.i64_in _ (by omega)
  have hmk := run_make_f (t := 22) (e := 3) Try.underlying22 info_int rfl c (c : Int) rfl (by omega) (by omega) w
  have e0 : fcells c (fun _ => Value.int .i64 0) = (rl c v 0).toArray := by unfold fcells rl; congr 1
  rw [e0] at hmk
  have hB0 := Blk.new w 3 (rl c v 0).toArray
  have hb0 := (Below.refl w.heap.size w).alloc (Nat.le_refl _) (.cells (rl c v 0).toArray 3)
  have hblt : b < w.heap.size := by
    rcases Nat.lt_or_ge b w.heap.size with h | h
    · exact h
    · unfold World.cell? at hc; simp [Array.getElem?_eq_none h] at hc
  have hc1 : (w.alloc (.cells (rl c v 0).toArray 3)).cell? ⟨b, off, none⟩ = some (.int .i64 v) := (Below.cell hb0 (p := ⟨b, off, none⟩) hblt).trans hc
  have hsr : ∀ j, j < 1 → (w.alloc (.cells (rl c v 0).toArray 3)).cell? ⟨b, off + j, none⟩ = some (.int .i64 v) := by
    intro j hj
    obtain rfl : j = 0 := by omega
    exact hc1
  obtain ⟨W2, hcp, hB2, hb2⟩ := copy_rl c v 0 1 w.heap.size (by omega) c c 1 cap (by show min 1 c = 1; omega) b off w _ hB0 hb0 (Nat.le_refl _) hsr
  obtain ⟨G, HG⟩ : ∃ P, Hid (w.heap.size = P) := ⟨_, Lib.hid (Eq.refl _)⟩
  rw [HG.out] at hB2 hmk hcp ⊢
  rw [Nat.zero_add] at hB2
  have HB2 := Lib.hid hB2
  have Hb2 := Lib.hid hb2
  clear hB0 hb0 hc1 e0 hc hblt hB2 hb2 hsr
  go_enter Try.func60, Try.ntmps60
  go_wp2_with fail
  refine (CM.out _).mono ?_
  rintro e w1 ⟨rfl, rfl⟩
  go_wp2_with fail
  clear hcp hmk
  go_loopw [8] (fun n_ wr => ∃ n : Nat, 1 ≤ n ∧ n ≤ c ∧ n_ = .int .i64 (n : Int) ∧ Hid (Blk wr G 3 (rl c v n).toArray) ∧ Hid (Below w.heap.size w wr)) (fun n _ => c - (intOf n).toNat)
  case atStart => exact ⟨1, by omega, by omega, rfl, HB2, Hb2⟩
  case round =>
    clear HB2 Hb2
    obtain ⟨n, hn1, hnc, rfl, HB, Hb⟩ := hrel
    by_cases hlt : n < c
    · have dk : decide ((n : Int) < (c : Int)) = true := by rw [decide_eq_true_eq]; omega
      obtain ⟨q, Hq⟩ : ∃ q, Hid (Nat.min n (c - n) = q) := ⟨_, Lib.hid (Eq.refl _)⟩
      have hq1 : 1 ≤ q ∧ n + q ≤ c := by have h : min n (c - n) = q := Hq.out; omega
      have hqI : IntKind.i64.wrap ((n : Int) + (q : Int)) = (n : Int) + (q : Int) := IntWalk.i64_in _ (by omega)
      obtain ⟨W3, hcp, hB3, hb3⟩ := copy_rl c v n q G hq1.2 (c - n) (c - n) n c Hq.out G 0 w wr.drew HB.out Hb.out.drew (by rw [HG.out]; exact Nat.le_refl _) (fun j hj => by
        have h1 := Blk.cell HB.out (0 + j)
        have h2 : j < n := by have h : min n (c - n) = q := Hq.out; omega
        rw [Nat.zero_add, List.getElem?_toArray, rl_at c v n j (by omega), if_pos h2] at h1
        rw [Nat.zero_add]
        exact h1)
      have HB3 := Lib.hid hB3
      have Hb3 := Lib.hid hb3
      clear hB3 hb3
      go_wp2_with fail
      go_region
      all_goals
        go_wp2_with fail
        go_roundw
        case rel => exact ⟨n + q, by omega, by omega, by go_num, HB3, Hb3⟩
        case measure => simp [intOf]; omega
    · obtain rfl : n = c := by omega
      have dk : decide ((n : Int) < (n : Int)) = false := by rw [decide_eq_false_iff_not]; omega
      go_wp2_with fail
      go_ret
      exact ⟨rfl, HB.out, by rw [← HG.out]; exact Hb.out⟩
end Go.Proofs.Ytjnglahjngiofaa
