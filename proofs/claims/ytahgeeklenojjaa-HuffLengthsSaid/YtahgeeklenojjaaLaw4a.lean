/- The law HuffApart of layer 4, walked, and the law's awake. Conditions: none. -/
import Derived.Test.YtahgeeklenojjaaCodesW
import Derived.Test.YtahgeeklenojjaaFew4
namespace Go.Proofs.Ytahgeeklenojjaa
open Go.RowKit
set_option maxRecDepth 100000

def lit4 (i : Nat) : Int := ([2, 1, 3, 3] : List Int).getD i 0
def lit2 (i : Nat) : Int := ([2, 2] : List Int).getD i 0

theorem irow_new (w : World) (n : Nat) (m : Nat → Int) (cs : Array Value) (h : ∀ i, i < n → cs[i]? = some (.int .i64 (m i))) : IRow (w.alloc (.cells cs 3)) (some ⟨w.heap.size, 0, none⟩) n m :=
  .inr ⟨w.heap.size, 0, rfl, by simp, fun i hi => by rw [Nat.zero_add, (Blk.new w 3 cs).cell, h i hi]⟩

theorem codes_fit {w : World} {n : Nat} {m : Nat → Int} {e : Ending} {w' : World} (h : CodesPost w n m e w') (hn : n ≤ 320) (hok : ∀ i, i < n → 0 ≤ m i ∧ m i ≤ 15) (hf : Fits (parts (lens m) n) (someOf (lens m) n)) :
    Below w.heap.size w w' ∧ ∃ g, e = .returned (.tuple #[.slice (some ⟨g, 0, none⟩) n n, .int .i64 0]) ∧ w.heap.size ≤ g ∧ Blk w' g 39 (ccells n (bitsF (lens m) n) (lens m)) := by
  obtain ⟨hb, h | ⟨_, ⟨i, hi, h⟩, _⟩ | ⟨_, _, h, _⟩ | ⟨_, _, _, v, he, g, rfl, hg, hB⟩⟩ := h
  · omega
  · exact absurd (hok i hi) h
  · exact absurd hf h
  · exact ⟨hb, g, he, hg, hB⟩
theorem codes_off {w : World} {n : Nat} {m : Nat → Int} {e : Ending} {w' : World} (h : CodesPost w n m e w') (hn : n ≤ 320) (hok : ∀ i, i < n → 0 ≤ m i ∧ m i ≤ 15) (hf : ¬ Fits (parts (lens m) n) (someOf (lens m) n)) :
    Below w.heap.size w w' ∧ e = .returned (.tuple #[.slice none 0 0, .int .i64 4]) := by
  obtain ⟨hb, h | ⟨_, ⟨i, hi, h⟩, _⟩ | ⟨_, _, _, he⟩ | ⟨_, _, h, _⟩⟩ := h
  · omega
  · exact absurd (hok i hi) h
  · exact ⟨hb, he⟩
  · exact absurd h hf

theorem awake4_any (w : World) : Calls Try.prog 18 #[] w fun e w' => e = .returned (.bool true) ∧ Below w.heap.size w w' := by
  have hbb := Below.refl w.heap.size w
  go_enter Try.func18, Try.ntmps18
  go_wp2_with fail
  refine (codes_any _ 4 4 lit4 (by decide) _ (irow_new w 4 lit4 _ (by intro i hi; match i, hi with | 0, _ => rfl | 1, _ => rfl | 2, _ => rfl | 3, _ => rfl))).mono ?_
  intro e w1 h
  obtain ⟨hb, g, rfl, hg, hB⟩ := codes_fit h (by decide) (by decide) ⟨by decide, by decide⟩
  replace hbb := (hbb.alloc (Nat.le_refl _) _).trans (hb.mono (by simp))
  clear h hb
  go_wp2_with fail
  refine (codes_any _ 2 2 lit2 (by decide) _ (irow_new w1 2 lit2 _ (by intro i hi; match i, hi with | 0, _ => rfl | 1, _ => rfl))).mono ?_
  intro e w2 h
  obtain ⟨hb, rfl⟩ := codes_off h (by decide) (by decide) (by unfold Fits; decide)
  replace hbb := (hbb.alloc hbb.size _).trans (hb.mono (by simp; have := hbb.size; omega))
  have hB1 := (hB.alloc (.cells #[.int .i64 2, .int .i64 2] 3)).below hb (by have := hB.lt; simp; omega)
  have hc1 := hB1.cell 0
  have hc2 := hB1.cell 1
  have hc3 := hB1.cell 6
  have hc4 := hB1.cell 7
  have b0 : bitsF (lens lit4) 4 0 = 2 := by decide +kernel
  have b1 : lens lit4 0 = 2 := by decide +kernel
  have b2 : bitsF (lens lit4) 4 3 = 7 := by decide +kernel
  have b3 : lens lit4 3 = 3 := by decide +kernel
  rw [ccells_bits 4 _ _ 0 0 rfl (by decide), b0] at hc1
  rw [ccells_len 4 _ _ 0 1 rfl (by decide), b1] at hc2
  rw [ccells_bits 4 _ _ 3 6 rfl (by decide), b2] at hc3
  rw [ccells_len 4 _ _ 3 7 rfl (by decide), b3] at hc4
  clear h hb hB hB1 b0 b1 b2 b3
  go_wp2_with fail
  go_ret
  exact ⟨rfl, hbb⟩
end Go.Proofs.Ytahgeeklenojjaa
