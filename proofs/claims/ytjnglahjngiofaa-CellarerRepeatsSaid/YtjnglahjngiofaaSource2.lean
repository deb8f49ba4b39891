/- bitio's sources: Of, Even, Place, Short, Text. Conditions: texts of at most a hundred million bytes. -/
import Derived.Test.YtjnglahjngiofaaSource
namespace Go.Proofs.Ytjnglahjngiofaa
open Go.RowKit
set_option maxRecDepth 100000

theorem srcOf_any (s : ByteArray) (w : World) : Calls Try.prog 46 #[.string s] w fun e w' => e = .returned (.pointer (some ⟨w.heap.size, 0, none⟩)) ∧ SrcAt w' w.heap.size s 0 ∧ Below w.heap.size w w' := by
  have hB := Blk.new w 131 #[.string s, .int .i64 0]
  have hb := (Below.refl w.heap.size w).alloc (Nat.le_refl _) (.cells #[.string s, .int .i64 0] 131)
  have HB := Lib.hid hB
  have Hb := Lib.hid hb
  clear hB hb
  go_enter Try.func46, Try.ntmps46
  go_wp2_with fail
  go_ret
  exact ⟨rfl, HB.out, Hb.out⟩
theorem srcPlace_any (P : Nat) (s : ByteArray) (p : Nat) (w : World) (hS : SrcAt w P s p) :
    Calls Try.prog 52 #[.pointer (some ⟨P, 0, none⟩)] w fun e w' => e = .returned (.int .i64 (p : Int)) ∧ w = w' := by
  have c1 := hS.cell 1
  simp at c1
  clear hS
  go_enter Try.func52, Try.ntmps52
  go_wp2_with fail
  go_ret
  exact ⟨rfl, rfl⟩
theorem srcShort_any (P : Nat) (s : ByteArray) (p : Nat) (hs : s.size ≤ 100000000) (w : World) (hS : SrcAt w P s p) :
    Calls Try.prog 69 #[.pointer (some ⟨P, 0, none⟩)] w fun e w' => e = .returned (.bool (decide (8 * s.size < p))) ∧ ∃ n, w' = w.drewN n := by
  have c0 := hS.cell 0
  have c1 := hS.cell 1
  simp at c0 c1
  obtain ⟨b, Hb⟩ : ∃ b, Hid (decide (8 * s.size < p) = b) := ⟨_, Lib.hid (Eq.refl _)⟩
  have hd : decide (8 * (s.size : Int) < (p : Int)) = b := by
    rw [← Hb.out]
    by_cases h : 8 * s.size < p
    · rw [decide_eq_true h, decide_eq_true (by omega)]
    · rw [decide_eq_false h, decide_eq_false (by omega)]
  rw [Hb.out]
  clear hS
  go_enter Try.func69, Try.ntmps69
  go_wp2_with fail
  go_quiet (fail)
  all_goals
    go_wp2_with fail
    go_ret
    first
      | exact ⟨rfl, _, rfl⟩
      | exact ⟨by rw [← hd]; rfl, _, rfl⟩
theorem src_set {w : World} {P p p' : Nat} {s : ByteArray} (h : SrcAt w P s p) : SrcAt (w.setCell ⟨P, 1, none⟩ (.int .i64 (p' : Int))) P s p' ∧ w.grownBy (w.setCell ⟨P, 1, none⟩ (.int .i64 (p' : Int))) (some P) ∧ (w.setCell ⟨P, 1, none⟩ (.int .i64 (p' : Int))).heap.size = w.heap.size := by
  refine ⟨?_, ⟨rfl, rfl, rfl, by simp [World.setCell], fun g hg hne => (heap_setCell_other w _ _ _ (fun e => hne (by rw [e])))⟩, by simp [World.setCell]⟩
  have := Blk.set_ h 1 (.int .i64 (p' : Int))
  show Blk _ _ _ _
  simpa using this
theorem srcEven_any (P : Nat) (s : ByteArray) (p : Nat) (hp : p ≤ 1000000000) (w : World) (hS : SrcAt w P s p) :
    Calls Try.prog 70 #[.pointer (some ⟨P, 0, none⟩)] w fun e w' => e = .returned (.tuple #[]) ∧ SrcAt w' P s ((p + 7) / 8 * 8) ∧ w.grownBy w' (some P) ∧ w'.heap.size = w.heap.size := by
  have c1 := hS.cell 1
  have cf := hS.frozen 1
  simp at c1
  obtain ⟨q, Hq⟩ : ∃ q, Hid ((p + 7) / 8 = q) := ⟨_, Lib.hid (Eq.refl _)⟩
  have e1 : ((p : Int) + 7) / 8 = (q : Int) := by have := Hq.out; omega
  have e2 : ((p : Int) + 7).tdiv 8 = (q : Int) := by rw [Int.tdiv_eq_ediv_of_nonneg (by omega)]; exact e1
  have hql : q ≤ 1000000000 := by have := Hq.out; omega
  have H := Lib.hid (src_set (p' := q * 8) hS)
  have e3 : ((q * 8 : Nat) : Int) = (q : Int) * 8 := by omega
  rw [Hq.out]
  simp only [e3] at H
  clear hS
  go_enter Try.func70, Try.ntmps70
  go_wp2_with fail
  (try simp only [Exit.inBlock, Exit.then]); refine bodyPost_end (results_none rfl _ _ _) rfl ?_
  exact ⟨rfl, H.out⟩
/-- The nearest of 0 to B. -/
def ClampB (B N : Int) (k : Nat) : Prop := (N < 0 ∧ k = 0) ∨ (N = (k : Int) ∧ N ≤ B) ∨ (B < N ∧ (k : Int) = B)
theorem clampB_run (B N : Int) (k : Nat) (hB : 0 ≤ B) (hN : ClampB B N k) : ∃ M : Int, (∀ W, Sem.run Try.prog (Builtin.min_ #[3, 3] 3 #[.int .i64 N, .int .i64 B]) W = .ok (.int .i64 M) W) ∧ ∀ W, Sem.run Try.prog (Builtin.max_ #[3, 3] 3 #[.int .i64 0, .int .i64 M]) W = .ok (.int .i64 (k : Int)) W := by
  refine ⟨if B < N then B else N, fun W => rfl, fun W => ?_⟩
  have e : (if (if B < N then B else N) > 0 then (if B < N then B else N) else 0) = (k : Int) := by
    unfold ClampB at hN
    split <;> split <;> omega
  show Result.ok (Value.int .i64 (if (if B < N then B else N) > 0 then (if B < N then B else N) else 0)) W = _
  rw [e]
theorem min_run (a b : Nat) (W : World) : Sem.run Try.prog (Builtin.min_ #[3, 3] 3 #[.int .i64 (a : Int), .int .i64 (b : Int)]) W = .ok (.int .i64 ((min a b : Nat) : Int)) W := by
  have e : (if (b : Int) < (a : Int) then (b : Int) else (a : Int)) = ((min a b : Nat) : Int) := by split <;> omega
  show Result.ok (Value.int .i64 (if (b : Int) < (a : Int) then (b : Int) else (a : Int))) W = _
  rw [e]
set_option maxHeartbeats 2000000 in
theorem srcText_any (P : Nat) (s : ByteArray) (p k : Nat) (N : Int) (hN : ClampB 65536 N k) (hs : s.size ≤ 100000000) (hp : p ≤ 1000000000) (w : World) (hS : SrcAt w P s p) :
    Calls Try.prog 71 #[.pointer (some ⟨P, 0, none⟩), .int .i64 N] w fun e w' => e = .returned (.string (s.extract (min ((p + 7) / 8) s.size) (min (min ((p + 7) / 8) s.size + k) s.size))) ∧
      SrcAt w' P s ((p + 7) / 8 * 8 + 8 * k) ∧ w.grownBy w' (some P) ∧ w'.heap.size = w.heap.size := by
  have hk : k ≤ 65536 := by unfold ClampB at hN; omega
  obtain ⟨M1, hmin, hmax⟩ := clampB_run 65536 N k (by omega) hN
  have CE := Lib.hid (srcEven_any P s p hp w hS)
  obtain ⟨q, Hq⟩ : ∃ q, Hid ((p + 7) / 8 = q) := ⟨_, Lib.hid (Eq.refl _)⟩
  have hql : q ≤ 1000000000 := by have := Hq.out; omega
  rw [Hq.out] at CE ⊢
  obtain ⟨f, Hf⟩ : ∃ f, Hid (min q s.size = f) := ⟨_, Lib.hid (Eq.refl _)⟩
  obtain ⟨t, Ht⟩ : ∃ t, Hid (min (f + k) s.size = t) := ⟨_, Lib.hid (Eq.refl _)⟩
  rw [Hf.out, Ht.out]
  have hfl : f ≤ s.size := by have := Hf.out; omega
  have hft : f ≤ t := by have := Ht.out; omega
  have htl : t ≤ s.size := by have := Ht.out; omega
  have hm1 := min_run q s.size
  have hm2 := min_run (f + k) s.size
  rw [Hf.out] at hm1
  rw [Ht.out] at hm2
  have e3 : ((f + k : Nat) : Int) = (f : Int) + (k : Int) := by omega
  rw [e3] at hm2
  have e1 : ((q : Int) * 8) / 8 = (q : Int) := by omega
  have e2 : ((q : Int) * 8).tdiv 8 = (q : Int) := by rw [Int.tdiv_eq_ediv_of_nonneg (by omega)]; exact e1
  clear hS hN
  go_enter Try.func71, Try.ntmps71
  go_wp2_with fail
  refine CE.out.mono ?_
  rintro e w1 ⟨rfl, hS1, hg1, hz1⟩
  have c0 := hS1.cell 0
  have c1 := hS1.cell 1
  have cf := hS1.frozen 1
  simp at c0 c1
  have e4 : ((q * 8 : Nat) : Int) = (q : Int) * 8 := by omega
  (try rw [e4] at c1)
  have HS1 := Lib.hid hS1
  clear hS1
  go_wp2_with fail
  go_quiet (fail)
  go_wp2_with fail
  have H5 := src_set (p' := q * 8 + 8 * k) (show SrcAt (w1.drewN nq) P s (q * 8) from HS1.out)
  have e5 : ((q * 8 + 8 * k : Nat) : Int) = (q : Int) * 8 + 8 * (k : Int) := by omega
  rw [e5] at H5
  have d0 := H5.1.cell 0
  simp at d0
  have H5h := Lib.hid H5
  have Hg1 := Lib.hid hg1
  have Hz1 := Lib.hid hz1
  have hsz : ((w1.drewN nq).setCell ⟨P, 1, none⟩ (.int .i64 ((q : Int) * 8 + 8 * (k : Int)))).heap.size = w.heap.size := H5.2.2.trans hz1
  have hgr : w.grownBy ((w1.drewN nq).setCell ⟨P, 1, none⟩ (.int .i64 ((q : Int) * 8 + 8 * (k : Int)))) (some P) :=
    grownBy_trans hg1 ⟨H5.2.1.os, H5.2.1.tape, H5.2.1.output, H5.2.1.size, H5.2.1.block⟩
  have Hsz := Lib.hid hsz
  have Hgr := Lib.hid hgr
  have HS5 := Lib.hid H5.1
  clear H5 H5h hsz hgr hg1 hz1 Hg1 Hz1 c0 c1 cf HS1 hmin hmax hm1
  generalize (w1.drewN nq).setCell ⟨P, 1, none⟩ (.int .i64 ((q : Int) * 8 + 8 * (k : Int))) = w5 at *
  go_quiet (fail)
  go_wp2_with fail
  go_ret
  exact ⟨rfl, HS5.out, ⟨Hgr.out.os, Hgr.out.tape, Hgr.out.output, Hgr.out.size, Hgr.out.block⟩, Hsz.out⟩
end Go.Proofs.Ytjnglahjngiofaa
