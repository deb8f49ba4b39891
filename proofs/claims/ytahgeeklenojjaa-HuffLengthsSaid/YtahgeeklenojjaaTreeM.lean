/- A tree of codes in memory. Conditions: none. -/
import Derived.Test.YtahgeeklenojjaaTreeP
import Derived.Test.YtahgeeklenojjaaCodesW
namespace Go.Proofs.Ytahgeeklenojjaa
open Go.RowKit
set_option maxRecDepth 100000

/-- The branches' cells. -/
def tcells (N : Nat) (B : Nat → Nat → Int) : List Value := (List.range (N * 2)).map fun i => .int .i64 (B (i / 2) (i % 2))
theorem tcells_length (N : Nat) (B : Nat → Nat → Int) : (tcells N B).length = N * 2 := by simp [tcells]
theorem tcells_at (N : Nat) (B : Nat → Nat → Int) (i : Nat) (h : i < N * 2) : (tcells N B)[i]? = some (.int .i64 (B (i / 2) (i % 2))) := by simp [tcells, h]
theorem tcells_out (N : Nat) (B : Nat → Nat → Int) (i : Nat) (h : ¬ i < N * 2) : (tcells N B)[i]? = none := List.getElem?_eq_none (by rw [tcells_length]; omega)
theorem tcells_set (N : Nat) (B : Nat → Nat → Int) (a b : Nat) (v : Int) (ha : a < N) (hb : b < 2) : (tcells N B).set (a * 2 + b) (.int .i64 v) = tcells N (setB B a b v) := by
  apply List.ext_getElem?
  intro i
  rw [List.getElem?_set]
  by_cases hi : i < N * 2
  · rw [tcells_at _ _ _ hi, tcells_at _ _ _ hi, tcells_length]
    unfold setB
    by_cases e : a * 2 + b = i
    · rw [if_pos e, if_pos (by omega), if_pos ⟨by omega, by omega⟩]
    · rw [if_neg e, if_neg (fun h => e (by omega))]
  · rw [tcells_out _ _ _ hi, tcells_out _ _ _ hi, if_neg (by omega)]
theorem tcells_more (N : Nat) (B : Nat → Nat → Int) : tcells N B ++ [.int .i64 0, .int .i64 0] = tcells (N + 1) (addB B N) := by
  apply List.ext_getElem?
  intro i
  by_cases hi : i < N * 2
  · rw [List.getElem?_append_left (by rw [tcells_length]; exact hi), tcells_at _ _ _ hi, tcells_at _ _ _ (by omega)]
    unfold addB
    rw [if_neg (by omega)]
  · rw [List.getElem?_append_right (by rw [tcells_length]; omega), tcells_length]
    by_cases h1 : i < (N + 1) * 2
    · rw [tcells_at _ _ _ h1]
      unfold addB
      rw [if_pos (by omega)]
      have : i - N * 2 = 0 ∨ i - N * 2 = 1 := by omega
      rcases this with h | h <;> rw [h] <;> rfl
    · rw [tcells_out _ _ _ h1, List.getElem?_eq_none (by simp; omega)]
theorem info_pair2 : (Try.prog.info? 65).map (fun i => (i.zero, i.size, i.bytes)) = some (some (.agg #[.int .i64 0, .int .i64 0]), 2, 16) := by kernel_rfl
theorem pair_one : ∀ u ∈ ([.int .i64 0, .int .i64 0] : List Value), u.oneCell' = true := by
  intro u hu
  simp only [List.mem_cons, List.not_mem_nil, or_false] at hu
  rcases hu with rfl | rfl <;> rfl

/-- The tree at T, whose branches lie at g. -/
def TreeAt (w : World) (T g N cap : Nat) (B : Nat → Nat → Int) : Prop := Blk w T 63 #[.slice (some ⟨g, 0, none⟩) N cap] ∧ g < w.heap.size ∧ ∀ a b, a < N → b < 2 → w.cell? ⟨g, a * 2 + b, none⟩ = some (.int .i64 (B a b))
theorem TreeAt.below {w w' : World} {T g N cap H : Nat} {B : Nat → Nat → Int} (h : TreeAt w T g N cap B) (hb : Below H w w') (hT : T < H) (hg : g < H) : TreeAt w' T g N cap B :=
  ⟨h.1.below hb hT, Nat.lt_of_lt_of_le h.2.1 hb.size, fun a b ha hb2 => (hb.cell (p := ⟨g, a * 2 + b, none⟩) hg).trans (h.2.2 a b ha hb2)⟩
theorem TreeAt.grown {w w' : World} {T g N cap P : Nat} {B : Nat → Nat → Int} (h : TreeAt w T g N cap B) (hg : w.grownBy w' (some P)) (hT : T ≠ P) (hgP : g ≠ P) : TreeAt w' T g N cap B := by
  refine ⟨h.1.grown hg (fun e => hT (by injection e)), Nat.lt_of_lt_of_le h.2.1 hg.size, fun a b ha hb2 => ?_⟩
  have hb := hg.block g h.2.1 (fun e => hgP (by injection e))
  have e : ∀ o, w'.cell? ⟨g, o, none⟩ = w.cell? ⟨g, o, none⟩ := fun o => by unfold World.cell?; simp only [hb]
  exact (e _).trans (h.2.2 a b ha hb2)
theorem trow_blk {w : World} {b e s n P t : Nat} {v : Value} {x : List Value} {cs : Array Value} (h : w.ownsRow b e s v n x) (hB : Blk w P t cs) (hne : e ≠ t) : v.ownBlock = none ∨ v.ownBlock ≠ some P := by
  rcases h.2 with ⟨rfl, _⟩ | ⟨g, cap, cur, rfl, _, hh, _⟩
  · exact .inl rfl
  · right
    intro e'
    simp only [Value.ownBlock, Option.some.injEq] at e'
    subst e'
    unfold Blk at hB
    rw [hh] at hB
    simp only [Option.some.injEq, Obj.cells.injEq] at hB
    exact hne hB.2.1

/-- What Plant holds: the tree at T of the row (g, N, cap), all behind the world w1. -/
def PT (w1 W : World) (T g N cap : Nat) (B : Nat → Nat → Int) : Prop :=
  Blk W T 63 #[.slice (some ⟨g, 0, none⟩) N cap] ∧ W.ownsRow w1.heap.size 65 2 (.slice (some ⟨g, 0, none⟩) N cap) N (tcells N B) ∧ Below w1.heap.size w1 W ∧ w1.heap.size ≤ T
section
variable {w1 W W' : World} {T g N cap : Nat} {B : Nat → Nat → Int}
theorem PT.cell (h : PT w1 W T g N cap B) (a b : Nat) (ha : a < N) (hb : b < 2) : W.cell? ⟨g, a * 2 + b, none⟩ = some (.int .i64 (B a b)) := by
  rw [World.ownsRow.cellAt h.2.1 (a * 2 + b) (by omega), tcells_at _ _ _ (by omega), show (a * 2 + b) / 2 = a by omega, show (a * 2 + b) % 2 = b by omega]
theorem PT.frozen (h : PT w1 W T g N cap B) (j : Nat) : W.frozen? ⟨g, j, none⟩ = false := World.ownsRow.frozenAt h.2.1 j
theorem PT.ne (h : PT w1 W T g N cap B) : g ≠ T := by
  rcases trow_blk h.2.1 h.1 (by decide) with e | e
  · simp [Value.ownBlock] at e
  · exact fun e2 => e (by simp [Value.ownBlock, e2])
theorem PT.lt (h : PT w1 W T g N cap B) : w1.heap.size ≤ g ∧ g < W.heap.size := World.ownsRow.lt h.2.1 g (by simp [Value.ownBlock])
theorem PT.below (h : PT w1 W T g N cap B) (hb : Below W.heap.size W W') : PT w1 W' T g N cap B := by
  refine ⟨h.1.below hb h.1.lt, ?_, h.2.2.1.trans (hb.mono h.2.2.1.size), h.2.2.2⟩
  have hlt := World.ownsRow.lt h.2.1
  refine ⟨h.2.1.1, ?_⟩
  rcases h.2.1.2 with h2 | ⟨g, cap, cur, e, h3, h4, h5⟩
  · exact .inl h2
  · rw [e] at hlt ⊢
    exact .inr ⟨g, cap, cur, rfl, h3, (hb.block g (hlt g (by simp [Value.ownBlock])).2).trans h4, h5⟩
theorem PT.store (h : PT w1 W T g N cap B) (a b : Nat) (v : Int) (ha : a < N) (hb : b < 2) : PT w1 (W.setCell ⟨g, a * 2 + b, none⟩ (.int .i64 v)) T g N cap (setB B a b v) := by
  have hs := World.ownsRow.stored h.2.1 (a * 2 + b) (.int .i64 v)
  rw [tcells_set N B a b v ha hb] at hs
  refine ⟨h.1.grown hs.2 (fun e => h.ne (by injection e with e; exact e.symm)), hs.1, ?_, h.2.2.2⟩
  exact h.2.2.1.setCell h.lt.1 _
/-- Behind append and the store of the new row. -/
theorem PT.more {g' cap' : Nat} {W2 : World} (h : PT w1 W T g N cap B) (hown : W2.ownsRow w1.heap.size 65 2 (.slice (some ⟨g', 0, none⟩) (N + 1) cap') (N + 1) (tcells N B ++ [.int .i64 0, .int .i64 0])) (hg : W.grownBy W2 (some g)) : PT w1 (W2.setCell ⟨T, 0, none⟩ (.slice (some ⟨g', 0, none⟩) (N + 1) cap')) T g' (N + 1) cap' (addB B N) := by
  rw [tcells_more] at hown
  have hB2 := h.1.grown hg (fun e => h.ne (by injection e with e; exact e.symm))
  have hne : g' ≠ T := by
    rcases trow_blk hown hB2 (by decide) with e | e
    · simp [Value.ownBlock] at e
    · exact fun e2 => e (by simp [Value.ownBlock, e2])
  refine ⟨by simpa using hB2.set_ 0 (.slice (some ⟨g', 0, none⟩) (N + 1) cap'), ?_, ?_, h.2.2.2⟩
  · refine World.ownsRow.kept hown (row := some T) ⟨rfl, rfl, rfl, by simp [World.setCell], fun k _ hk => heap_setCell_other W2 ⟨T, 0, none⟩ k _ (fun e => hk (by simp [e]))⟩ (.inr ?_)
    simp [Value.ownBlock, hne]
  · have hb2 : Below w1.heap.size w1 W2 := h.2.2.1.grown hg h.2.2.1.size (fun k e => by injection e with e; rw [← e]; exact h.lt.1)
    exact hb2.setCell h.2.2.2 _
theorem PT.at (h : PT w1 W T g N cap B) : TreeAt W T g N cap B := ⟨h.1, h.lt.2, fun a b ha hb => h.cell a b ha hb⟩
end

theorem run_make_t (w : World) :
    (Instr.makeSlice 61 (.int .i64 1) (.int .i64 1)).run Try.prog w = .ok (.slice (some ⟨w.heap.size, 0, none⟩) 1 1) (w.alloc (.cells #[.int .i64 0, .int .i64 0] 65)) := by
  obtain ⟨i0, hi, hz0, hz1, hz2⟩ := info_parts info_pair2
  have hr := run_make (P := Try.prog) w 61 65 i0 _ Try.underlying61 hi hz0 .i64 .i64 1 1 (by omega) (by omega) (by rw [hz2]; omega) (by omega)
  rw [hz1] at hr
  have e : madeCells (Value.agg #[.int .i64 0, .int .i64 0]).cells (1 * 2) = #[.int .i64 0, .int .i64 0] := by
    have e0 : (Value.agg #[.int .i64 0, .int .i64 0]).cells = #[.int .i64 0, .int .i64 0] := rfl
    rw [e0]
    apply Array.ext_getElem?
    intro i
    by_cases hi : i < 2
    · unfold madeCells
      have h1 : (Array.range (1 * 2))[i]? = some i := by simp [Array.getElem?_range]; omega
      rw [Array.getElem?_map, h1]
      have : i = 0 ∨ i = 1 := by omega
      rcases this with rfl | rfl <;> rfl
    · rw [Array.getElem?_eq_none (by rw [size_madeCells]; omega), Array.getElem?_eq_none (by simp; omega)]
  simp only [Int.toNat_one, e] at hr
  exact hr
/-- The first tree. -/
theorem PT.start (w1 : World) : PT w1 ((w1.alloc (.cells #[.int .i64 0, .int .i64 0] 65)).alloc (.cells #[.slice (some ⟨w1.heap.size, 0, none⟩) 1 1] 63)) (w1.heap.size + 1) w1.heap.size 1 1 (fun _ _ => 0) := by
  have h1 := Blk.new (w1.alloc (.cells #[.int .i64 0, .int .i64 0] 65)) 63 #[.slice (some ⟨w1.heap.size, 0, none⟩) 1 1]
  have h2 := World.ownsRow_lit (base := w1.heap.size) (e := 65) (size := 2) w1 #[.int .i64 0, .int .i64 0] 1 (Nat.le_refl _) (by unfold maxLen; omega) rfl
  have hb := ((Below.refl w1.heap.size w1).alloc (Nat.le_refl _) (.cells #[.int .i64 0, .int .i64 0] 65))
  refine ⟨by simpa using h1, ?_, hb.alloc hb.size _, by omega⟩
  exact World.ownsRow.alloc h2 _
end Go.Proofs.Ytahgeeklenojjaa
