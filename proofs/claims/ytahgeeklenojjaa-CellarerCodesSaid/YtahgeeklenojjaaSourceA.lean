/- bitio's sources: Of, Even, Place, Short, Text. Conditions: texts of at most a hundred million bytes. -/
import Derived.Test.YtahgeeklenojjaaSource
namespace Go.Proofs.Ytahgeeklenojjaa
open Go.RowKit
set_option maxRecDepth 100000

theorem srcOf_any (s : ByteArray) (w : World) : Calls Try.prog 12 #[.string s] w fun e w' => e = .returned (.pointer (some ⟨w.heap.size, 0, none⟩)) ∧ SrcAt w' w.heap.size s 0 ∧ Below w.heap.size w w' := by
  have hB := Blk.new w 69 #[.string s, .int .i64 0]
  have hb := (Below.refl w.heap.size w).alloc (Nat.le_refl _) (.cells #[.string s, .int .i64 0] 69)
  have HB := Lib.hid hB
  have Hb := Lib.hid hb
  clear hB hb
  go_enter Try.func12, Try.ntmps12
  go_wp2_with fail
  go_ret
  exact ⟨rfl, HB.out, Hb.out⟩
theorem srcPlace_any (P : Nat) (s : ByteArray) (p : Nat) (w : World) (hS : SrcAt w P s p) :
    Calls Try.prog 14 #[.pointer (some ⟨P, 0, none⟩)] w fun e w' => e = .returned (.int .i64 (p : Int)) ∧ w = w' := by
  have c1 := hS.cell 1
  simp at c1
  clear hS
  go_enter Try.func14, Try.ntmps14
  go_wp2_with fail
  go_ret
  exact ⟨rfl, rfl⟩
theorem srcShort_any (P : Nat) (s : ByteArray) (p : Nat) (hs : s.size ≤ 100000000) (w : World) (hS : SrcAt w P s p) :
    Calls Try.prog 15 #[.pointer (some ⟨P, 0, none⟩)] w fun e w' => e = .returned (.bool (decide (8 * s.size < p))) ∧ ∃ n, w' = w.drewN n := by
  have c0 := hS.cell 0
  have c1 := hS.cell 1
  simp at c0 c1
  obtain ⟨b, Hb⟩ : ∃ b, Hid (decide (8 * s.size < p) = b) := ⟨_, Lib.hid (Eq.refl _)⟩
  have hd : decide (8 * (s.size : Int) < (p : Int)) = b := by
    rw [← Hb.out]
    by_cases h : 8 * s.size < p
    · rw [decide_eq_true h, decide_eq_true (by omega)]
    · rw [decide_eq_false h, decide_eq_false (by omega)]
  rw [Hb.out]
  clear hS
  go_enter Try.func15, Try.ntmps15
  go_wp2_with fail
  go_quiet (fail)
  all_goals
    go_wp2_with fail
    go_ret
    first
      | exact ⟨rfl, _, rfl⟩
      | exact ⟨by rw [← hd]; rfl, _, rfl⟩
theorem src_set {w : World} {P p p' : Nat} {s : ByteArray} (h : SrcAt w P s p) : SrcAt (w.setCell ⟨P, 1, none⟩ (.int .i64 (p' : Int))) P s p' ∧ w.grownBy (w.setCell ⟨P, 1, none⟩ (.int .i64 (p' : Int))) (some P) ∧ (w.setCell ⟨P, 1, none⟩ (.int .i64 (p' : Int))).heap.size = w.heap.size := by
  refine ⟨?_, ⟨rfl, rfl, rfl, by simp [World.setCell], fun g hg hne => (heap_setCell_other w _ _ _ (fun e => hne (by rw [e])))⟩, by simp [World.setCell]⟩
  have := Blk.set_ h 1 (.int .i64 (p' : Int))
  show Blk _ _ _ _
  simpa using this
end Go.Proofs.Ytahgeeklenojjaa
