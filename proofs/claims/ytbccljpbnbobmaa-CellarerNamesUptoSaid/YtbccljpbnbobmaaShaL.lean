/- What the walks of digest share. Conditions: none. -/
import Derived.Test.YtbccljpbnbobmaaShaK
import Derived.Deep.Cut
import Derived.Deep.RegionHeld3
import Derived.StillTailTactics
namespace Go.Proofs.Ytbccljpbnbobmaa
open Go.RowKit
set_option maxRecDepth 100000

theorem calls_sym {g : FuncId} {args : Array Value} {W : World} {v : Ending} (h : Calls Try.prog g args W fun e w' => e = v ∧ W = w') : Calls Try.prog g args W fun e w' => e = v ∧ w' = W := h.mono fun _ _ h => ⟨h.1, h.2.symm⟩
theorem range_words {w : World} {H : Nat} {f : Nat → Nat} {rest : ByteArray} {n : Nat} {b : Bool} (h : Blk w H 55 (hcells f rest n b)) (k : Nat) (hk : k ≤ 72) : w.rangeAt H 0 ((List.range k).map (wval f)) := fun j v hv => by
  have hj : j < k := by
    have := (List.getElem?_eq_some_iff.1 hv).1
    simpa using this
  have e : ((List.range k).map (wval f))[j]? = some (.int .u32 (f j : Int)) := by simp [hj, wval]
  rw [e] at hv
  rw [Nat.zero_add, h.cell j, hcells_word _ _ _ _ _ (by omega), hv]
theorem wcells_one (n : Nat) (f : Nat → Nat) : ((List.range n).map (wval f)).toArray.all (·.oneCell') = true := by
  rw [Array.all_eq_true_iff_forall_mem]
  intro v hv
  simp only [List.mem_toArray, List.mem_map] at hv
  obtain ⟨i, _, rfl⟩ := hv
  rfl
theorem getD_lt (l : List Nat) (j : Nat) (h : ∀ y ∈ l, y < 4294967296) : l.getD j 0 < 4294967296 := by
  rcases Nat.lt_or_ge j l.length with hj | hj
  · have e : l.getD j 0 = l[j] := by simp [List.getD, hj]
    rw [e]
    exact h _ (List.getElem_mem hj)
  · have e : l.getD j 0 = 0 := by simp [List.getD, hj]
    rw [e]; decide
theorem region_still {P : Program} {id : Nat} {Q : Exit → Act → World → Prop} {a : Act} {w wz : World} {l : List Oper} (hz : wz = w.drew) (hm : P.follows .mixedOrders = true) (hB : Region.lexB .any l.toArray = true)
    (h : wpStill P l.toArray wz (fun a' => Q .normal a' wz) l a) : (Code.region id l.toArray true).wp P Q a w := by
  subst hz
  exact wp_region_still_lit hm hB h
theorem Onl.setRow_at {H : Nat} {w w1 : World} (h : Onl H w w1) (cs : Array Value) : Onl H w (w1.setRow H cs) := by
  have hb := below_setRow (Below.refl H w1) (Nat.le_refl H) cs
  have hother : ∀ g, g ≠ H → (w1.setRow H cs).heap[g]? = w1.heap[g]? := fun g hg => setRow_other w1 H g cs hg
  exact ⟨hb.os.trans h.1, hb.tape.trans h.2.1, hb.output.trans h.2.2.1, Nat.le_trans h.2.2.2.1 hb.size, fun g hg h1 => (hother g h1).trans (h.2.2.2.2 g hg h1)⟩
theorem fcells8_set (l : List Nat) (a0 a1 a2 a3 a4 a5 a6 a7 : Nat) : (fcells 8 (wval fun j => [a0, a1, a2, a3, a4, a5, a6, a7].getD j 0)) = ((((((((((fcells 8 (wval fun j => l.getD j 0)).setIfInBounds 0 (.int .u32 (a0 : Int))).setIfInBounds 1 (.int .u32 (a1 : Int))).setIfInBounds 2 (.int .u32 (a2 : Int))).setIfInBounds 3 (.int .u32 (a3 : Int))).setIfInBounds 4 (.int .u32 (a4 : Int))).setIfInBounds 5 (.int .u32 (a5 : Int))).setIfInBounds 6 (.int .u32 (a6 : Int))).setIfInBounds 7 (.int .u32 (a7 : Int)))) := by
  simp only [wcells_set]
  refine fcells_congr 8 _ _ fun i hi => ?_
  rcases show i = 0 ∨ i = 1 ∨ i = 2 ∨ i = 3 ∨ i = 4 ∨ i = 5 ∨ i = 6 ∨ i = 7 by omega with rfl | rfl | rfl | rfl | rfl | rfl | rfl | rfl <;> rfl
theorem index_words (D : Nat → Nat) (j : Nat) (hj : j < 8) (W : World) : (Instr.index 52 (.agg ((List.range 8).map (wval D)).toArray) (.int .i64 (j : Int))).run Try.prog W = .ok (.int .u32 (D j : Int)) W := by
  rcases show j = 0 ∨ j = 1 ∨ j = 2 ∨ j = 3 ∨ j = 4 ∨ j = 5 ∨ j = 6 ∨ j = 7 by omega with rfl | rfl | rfl | rfl | rfl | rfl | rfl | rfl <;> kernel_rfl
theorem not32 (c : Nat) (hc : c < 4294967296) : bits .xor .u32 IntKind.u32.max (c : Int) = ((4294967295 - c : Nat) : Int) := by
  have h0 : 4294967295 ^^^ c = 4294967295 - c := by
    have h1 : (4294967295 : Nat) = 2 ^ 32 - 1 := by decide
    have h2 : 4294967295 - c = 2 ^ 32 - (c + 1) := by omega
    rw [h2, h1]
    apply Nat.eq_of_testBit_eq
    intro i
    rw [Nat.testBit_xor, Nat.testBit_two_pow_sub_one, Nat.testBit_two_pow_sub_succ (by omega)]
    by_cases hi : i < 32
    · simp [hi]
    · simp [hi]
      exact Nat.testBit_lt_two_pow (Nat.lt_of_lt_of_le (show c < 2 ^ 32 by omega) (Nat.pow_le_pow_right (by decide) (by omega)))
  have := u32_xor_nat 4294967295 c (by decide) hc
  rw [h0] at this
  exact this
theorem or_add32 (a b k : Nat) (hb : b < 2 ^ k) : a * 2 ^ k ||| b = a * 2 ^ k + b := by
  have := Nat.shiftLeft_add_eq_or_of_lt hb a
  rw [Nat.shiftLeft_eq] at this
  exact this.symm
theorem xor_lt32 {a b : Nat} (ha : a < 4294967296) (hb : b < 4294967296) : a ^^^ b < 4294967296 := Nat.xor_lt_two_pow (n := 32) ha hb
theorem and_lt32 {a b : Nat} (ha : a < 4294967296) : a &&& b < 4294967296 := Nat.lt_of_le_of_lt Nat.and_le_left ha
theorem or_p1 (a b : Nat) : a * 16777216 + b * 65536 = (a * 256 + b) * 2 ^ 16 := by
  have h : (2 : Nat) ^ 16 = 65536 := by decide
  rw [h]
  omega
theorem or4 (a b c d : Nat) (ha : a < 2 ^ 8) (hb : b < 2 ^ 8) (hc : c < 2 ^ 8) (hd : d < 2 ^ 8) : bits .or .u32 (bits .or .u32 (bits .or .u32 ((a : Int) * 16777216) ((b : Int) * 65536)) ((c : Int) * 256)) (d : Int) = ((word4 a b c d : Nat) : Int) := by
  have e1 : (a : Int) * 16777216 = ((a * 16777216 : Nat) : Int) := by omega
  have e2 : (b : Int) * 65536 = ((b * 65536 : Nat) : Int) := by omega
  have e3 : (c : Int) * 256 = ((c * 256 : Nat) : Int) := by omega
  have o1 : a * 16777216 ||| b * 65536 = a * 16777216 + b * 65536 := by
    have h := or_add32 a (b * 65536) 24 (by omega)
    rw [show (2 : Nat) ^ 24 = 16777216 from by decide] at h
    exact h
  have o2 := or_add32 (a * 256 + b) (c * 256) 16 (by omega)
  have o3 := or_add32 (a * 65536 + b * 256 + c) d 8 hd
  have p1 : a * 16777216 ||| b * 65536 = (a * 256 + b) * 2 ^ 16 := by
    rw [o1]
    exact or_p1 a b
  have p2 : (a * 256 + b) * 2 ^ 16 ||| c * 256 = (a * 65536 + b * 256 + c) * 2 ^ 8 := o2.trans (by omega)
  have q1 := u32_or_nat (a * 16777216) (b * 65536) (by omega) (by omega)
  have q2 := u32_or_nat ((a * 256 + b) * 2 ^ 16) (c * 256) (by omega) (by omega)
  have q3 := u32_or_nat ((a * 65536 + b * 256 + c) * 2 ^ 8) d (by omega) (by omega)
  rw [p1] at q1
  rw [p2] at q2
  rw [o3] at q3
  rw [e1, e2, e3, q1, q2, q3]
  have e : (a * 65536 + b * 256 + c) * 2 ^ 8 + d = word4 a b c d := by
    unfold word4
    omega
  rw [e]
theorem get_at (p : ByteArray) (j : Nat) (hj : j < p.size) : (p.data.toList.getD j 0) = p[j] := by
  have : j < p.data.toList.length := by simpa using hj
  unfold List.getD
  rw [List.getElem?_eq_getElem this]
  rfl
end Go.Proofs.Ytbccljpbnbobmaa
