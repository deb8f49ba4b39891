/- The document's step, in plain words. Conditions: words of 32 bits. -/
import Derived.Test.YtbccljpbnbobmaaRef2d
import Derived.Great.BuildSlice
namespace Go.Proofs.Ytbccljpbnbobmaa
open Go.RowKit
set_option maxRecDepth 100000

theorem wbit_and (x y i : Nat) : wbit (x &&& y) i = (wbit x i && wbit y i) := by
  rw [wbit_test, wbit_test, wbit_test, Nat.testBit_and]
theorem wbit_not (x i : Nat) (hx : x < 4294967296) (hi : i < 32) : wbit (4294967295 - x) i = !wbit x i := by
  rw [wbit_test, wbit_test]
  have e : 4294967295 - x = 2 ^ 32 - (x + 1) := by omega
  rw [e, Nat.testBit_two_pow_sub_succ (by omega), decide_eq_true (by omega), Bool.true_and]
def chN (a b c : Nat) : Nat := (a &&& b) ^^^ ((4294967295 - a) &&& c)
def moN (a b c : Nat) : Nat := (a &&& b) ^^^ (a &&& c) ^^^ (b &&& c)
theorem wbit_ch (a b c i : Nat) (ha : a < 4294967296) (hi : i < 32) : wbit (chN a b c) i = (wbit a i && wbit b i || !wbit a i && wbit c i) := by
  unfold chN
  rw [wbit_xor, wbit_and, wbit_and, wbit_not a i ha hi]
  cases wbit a i <;> cases wbit b i <;> cases wbit c i <;> rfl
theorem wbit_mo (a b c i : Nat) : wbit (moN a b c) i = (wbit a i && wbit b i || wbit a i && wbit c i || wbit b i && wbit c i) := by
  unfold moN
  rw [wbit_xor, wbit_xor, wbit_and, wbit_and, wbit_and]
  cases wbit a i <;> cases wbit b i <;> cases wbit c i <;> rfl
/-- The first k bits of F. -/
def cutF (F : Nat → Bool) (k j : Nat) : Bool := if j < k then F j else false
theorem cutF_zero (F : Nat → Bool) : fcells 32 (tval fun _ => false) = fcells 32 (tval (cutF F 0)) := by
  refine fcells_congr _ _ _ fun i hi => ?_
  unfold tval cutF
  rw [if_neg (by omega)]
theorem cutF_succ (F : Nat → Bool) (k : Nat) : fcells 32 (tval fun i => if i = k then F k else cutF F k i) = fcells 32 (tval (cutF F (k + 1))) := by
  refine fcells_congr _ _ _ fun i hi => ?_
  unfold tval cutF
  by_cases h : i = k
  · subst h
    simp only [if_true]
    rw [if_pos (by omega)]
  · simp only [h, if_false]
    by_cases h2 : i < k
    · rw [if_pos h2, if_pos (by omega)]
    · rw [if_neg h2, if_neg (by omega)]
theorem cutF_all (F : Nat → Bool) : fcells 32 (tval (cutF F 32)) = fcells 32 (tval F) := by
  refine fcells_congr _ _ _ fun i hi => ?_
  unfold tval cutF
  rw [if_pos hi]
theorem WRow.below {B : Nat} {w w' : World} {a : Option Addr} {n : Nat} {v : Nat → Nat} (h : WRow w a n v) (hb : Below B w w') (hB : w.heap.size ≤ B) : WRow w' a n v := by
  rcases h with h | ⟨b, off, rfl, hbl, hc⟩
  · exact .inl h
  · exact .inr ⟨b, off, rfl, Nat.lt_of_lt_of_le hbl hb.size, fun j hj q u hq => (hb.cell (p := ⟨b, off + j * 32 + q, none⟩) (Nat.lt_of_lt_of_le hbl hB)).trans (hc j hj q u hq)⟩
theorem WRow.bit {w : World} {b off n : Nat} {v : Nat → Nat} (h : WRow w (some ⟨b, off, none⟩) n v) (j i : Nat) (hj : j < n) (hi : i < 32) : w.cell? ⟨b, off + j * 32 + i, none⟩ = some (.bool (wbit (v j) i)) := by
  rcases h with h | ⟨b', off', e, hbl, hc⟩
  · omega
  · simp only [Option.some.injEq, Addr.mk.injEq] at e
    obtain ⟨rfl, rfl, _⟩ := e
    refine hc j hj i _ ?_
    rw [List.getElem?_map, List.getElem?_range hi]
    rfl
theorem WRow.range {w : World} {b off n : Nat} {v : Nat → Nat} (h : WRow w (some ⟨b, off, none⟩) n v) (j : Nat) (hj : j < n) : w.rangeAt b (off + j * 32) ((List.range 32).map (tval (wbit (v j)))) := by
  rcases h with h | ⟨b', off', e, hbl, hc⟩
  · omega
  · simp only [Option.some.injEq, Addr.mk.injEq] at e
    obtain ⟨rfl, rfl, _⟩ := e
    exact hc j hj
/-- A word's cells. -/
def wl (x : Nat) : List Value := (List.range 32).map (tval (wbit x))
theorem wl_len (x : Nat) : (wl x).length = 32 := by simp [wl]
theorem wl_arr (x : Nat) : (wl x).toArray = fcells 32 (tval (wbit x)) := rfl
theorem wl_one (x : Nat) : (wl x).toArray.all (·.oneCell') = true := tcells2_one 32 _
theorem info_wl (x : Nat) : (Try.prog.info? 69).map (·.size) = some (wl x).length := by rw [info_word, wl_len]
theorem info_wla (x : Nat) : (Try.prog.info? 69).map (·.size) = some (wl x).toArray.size := by rw [info_word, List.size_toArray, wl_len]
/-- Cells of words, one behind the other. -/
def wcl (L : List Nat) : List Value := L.flatMap fun x => (List.range 32).map (tval (wbit x))
theorem rangeAt_bel {w W : World} {b o : Nat} {cs : List Value} (h : w.rangeAt b o cs) (hb : Below w.heap.size w W) : W.rangeAt b o cs := fun j v hv =>
  (hb.cell (p := ⟨b, o + j, none⟩) (World.block_lt_of_cell? w _ (h j v hv))).trans (h j v hv)
theorem Blk.range {w : World} {g x : Nat} {t : TypeId} (h : Blk w g t (fcells 32 (tval (wbit x)))) : w.rangeAt g 0 (wl x) := fun j v hv => by
  rw [h.cell, Nat.zero_add, ← wl_arr, ← Array.getElem?_toList]
  exact hv
theorem wp_build_words {o : Oper} {a : Act} {w : World} {K : Act → World → Prop} {Q : Exit → Act → World → Prop} (len : Nat) (parts : Array (Nat × Operand)) (ho : o.op = .buildSlice 67 len parts)
    (L : List Nat) (hlen : L.length = len) (hpos : 0 < len) (hsm : len ≤ 100) (hv : (parts.toList.map fun p => (p.1, a.eval p.2)) = ((L.map fun x => Value.agg (wl x).toArray).zipIdx 0).map fun x => (x.2, x.1))
    (h : K (a.put o.dst (.slice (some ⟨w.heap.size, 0, none⟩) len len)) (w.alloc (.cells (wcl L).toArray 69))) : o.wp Try.prog a w K Q := by
  obtain ⟨ie, hie, hz, hs, hb⟩ := info_parts (show (Try.prog.info? 69).map (fun i => (i.zero, i.size, i.bytes)) = some (some (.agg (fcells 32 (tval fun _ => false))), 32, 32) by kernel_rfl)
  have hf := Great.fill_whole (s := 32) (by decide) (L.map fun x => Value.agg (wl x).toArray) ((Array.range (len * ie.size)).map ((Value.agg (fcells 32 (tval fun _ => false))).cells[· % (Value.agg (fcells 32 (tval fun _ => false))).cells.size]!)) (by
    intro v hv2
    obtain ⟨x, _, rfl⟩ := List.mem_map.1 hv2
    show (wl x).toArray.size = 32
    rw [List.size_toArray, wl_len]) (by simp [hs, hlen])
  have e : ((L.map fun x => Value.agg (wl x).toArray).flatMap fun v => v.cells.toList).toArray = (wcl L).toArray := by
    congr 1
    rw [List.flatMap_map]
    rfl
  rw [e] at hf
  refine wp_buildSlice 67 69 len parts ho (wcl L).toArray ie _ Try.underlying67 hie hz (by rw [hs]; omega) (by rw [hs]; omega) ?_ h
  rw [Array.toList_map]
  show Instr.fill _ _ (parts.toList.map fun p => (p.1, a.eval p.2)) = _
  rw [hv, hs]
  rw [hs] at hf
  exact hf
theorem wcl_len (L : List Nat) : (wcl L).length = L.length * 32 := by
  induction L with
  | nil => rfl
  | cons x r ih =>
    have e : wcl (x :: r) = (List.range 32).map (tval (wbit x)) ++ wcl r := rfl
    rw [e, List.length_append, ih, List.length_map, List.length_range, List.length_cons]; omega
theorem wcl_at (L : List Nat) : ∀ (j q : Nat), j < L.length → q < 32 → (wcl L)[j * 32 + q]? = some (.bool (wbit (L.getD j 0) q)) := by
  induction L with
  | nil => intro j q hj; exact absurd hj (Nat.not_lt_zero _)
  | cons x r ih =>
    intro j q hj hq
    have e : wcl (x :: r) = (List.range 32).map (tval (wbit x)) ++ wcl r := rfl
    have hl : ((List.range 32).map (tval (wbit x))).length = 32 := by simp
    rw [e]
    cases j with
    | zero =>
      rw [List.getElem?_append_left (by rw [hl]; omega), Nat.zero_mul, Nat.zero_add, List.getElem?_map, List.getElem?_range hq]
      rfl
    | succ j =>
      rw [List.getElem?_append_right (by rw [hl]; omega), hl, show (j + 1) * 32 + q - 32 = j * 32 + q by omega]
      exact ih j q (by simpa using hj) hq
/-- A block that holds the words L. -/
theorem WRow.of_block {w : World} {g : Nat} {t : TypeId} {L : List Nat} {cs : Array Value} (h : Blk w g t cs) (hc : cs.toList = wcl L) : WRow w (some ⟨g, 0, none⟩) L.length (fun i => L.getD i 0) := by
  refine .inr ⟨g, 0, rfl, h.lt, fun j hj q u hq => ?_⟩
  have hq2 : q < 32 := by
    rcases Nat.lt_or_ge q 32 with h | h
    · exact h
    · rw [List.getElem?_eq_none (by simp; omega)] at hq; cases hq
  rw [h.cell, ← Array.getElem?_toList, hc, Nat.zero_add, wcl_at L j q hj hq2]
  rw [List.getElem?_map, List.getElem?_range hq2] at hq
  exact hq
/-- Sums of lists. -/
def sumW (L : List Nat) : Nat := sumV (fun i => L.getD i 0) L.length
theorem sumV_mod (v : Nat → Nat) (n : Nat) : sumV v n = ((List.range n).map v).sum % 4294967296 := by
  induction n with
  | zero => rfl
  | succ n ih => rw [sumV_succ, ih, List.range_succ, List.map_append, List.sum_append, Nat.mod_add_mod]; simp
theorem wl_fc (x : Nat) : Value.agg (fcells 32 (tval (wbit x))) = Value.agg (wl x).toArray := rfl
theorem turns_wl (x a b c : Nat) (sh : Bool) (hx : x < 4294967296) (ha : 1 ≤ a ∧ a < 32) (hb : 1 ≤ b ∧ b < 32) (hc : 1 ≤ c ∧ c < 32) (w : World) :
    Calls Try.prog 50 #[.agg (wl x).toArray, .int .i64 (a : Int), .int .i64 (b : Int), .int .i64 (c : Int), .bool sh] w fun e w' => e = .returned (.agg (wl (turnN x a b c sh)).toArray) ∧ Below w.heap.size w w' := by
  have := turns_any (wbit x) a b c sh ha hb hc w
  rw [turnF_word x a b c sh hx ha hb hc] at this
  exact this
theorem sum_getD (L : List Nat) : ((List.range L.length).map fun i => L.getD i 0) = L := by
  apply List.ext_getElem?
  intro i
  rw [List.getElem?_map]
  rcases Nat.lt_or_ge i L.length with h | h
  · rw [List.getElem?_range h, List.getElem?_eq_getElem h]
    simp [List.getD_eq_getElem?_getD, List.getElem?_eq_getElem h]
  · rw [List.getElem?_eq_none (by simpa using h), List.getElem?_eq_none h]
    rfl
theorem add_wl (g n : Nat) (L : List Nat) (hL : L.length = n) (hn : n ≤ 10) (w : World) (h : Blk w g 69 (wcl L).toArray) :
    Calls Try.prog 49 #[.slice (some ⟨g, 0, none⟩) n n] w fun e w' => e = .returned (.agg (wl (L.sum % 4294967296)).toArray) ∧ Below w.heap.size w w' := by
  subst hL
  have := add_any (some ⟨g, 0, none⟩) L.length L.length (fun i => L.getD i 0) hn w (WRow.of_block h (by simp))
  rw [sumV_mod, sum_getD] at this
  exact this
end Go.Proofs.Ytbccljpbnbobmaa
