/- Slices of bools, told as the bits of a number. Conditions: none. -/
import Derived.Test.YtginjnpboggnbaaBase
import Derived.Laws.AppendOwnNone
namespace Go.Proofs.Ytginjnpboggnbaa
open Go.RowKit

/-- The first n bits of V, as values. -/
def bval (V i : Nat) : Value := .bool (V.testBit i)
def bvals (n V : Nat) : List Value := (List.range n).map (bval V)
theorem bvals_length (n V : Nat) : (bvals n V).length = n := by simp [bvals]
theorem bvals_at (n V i : Nat) (h : i < n) : (bvals n V)[i]? = some (bval V i) := by simp [bvals, h]
theorem bvals_one (n V : Nat) : ∀ u ∈ bvals n V, u.oneCell' = true := by
  intro u hu
  simp only [bvals, List.mem_map] at hu
  obtain ⟨i, _, rfl⟩ := hu
  rfl
theorem bvals_succ (n V : Nat) : bvals (n + 1) V = bvals n V ++ [.bool (V.testBit n)] := by simp [bvals, List.range_succ, bval]
theorem bvals_congr (n V U : Nat) (h : ∀ i, i < n → V.testBit i = U.testBit i) : bvals n V = bvals n U := by
  unfold bvals
  refine List.map_congr_left fun i hi => ?_
  unfold bval
  rw [h i (List.mem_range.1 hi)]
/-- One bit turned. -/
theorem bvals_flip (n V k : Nat) (hk : k < n) : (bvals n V).set k (.bool (!V.testBit k)) = bvals n (V ^^^ 2 ^ k) := by
  apply List.ext_getElem?
  intro i
  rw [List.getElem?_set]
  by_cases e : k = i
  · subst e
    rw [if_pos rfl, if_pos (by rw [bvals_length]; exact hk), bvals_at _ _ _ hk]
    unfold bval
    rw [Nat.testBit_xor, Nat.testBit_two_pow_self]
    simp
  · rw [if_neg e]
    by_cases hi : i < n
    · rw [bvals_at _ _ _ hi, bvals_at _ _ _ hi]
      unfold bval
      rw [Nat.testBit_xor, Nat.testBit_two_pow_of_ne e, Bool.xor_false]
    · rw [List.getElem?_eq_none (by rw [bvals_length]; omega), List.getElem?_eq_none (by rw [bvals_length]; omega)]

theorem info_bool : (Try.prog.info? 4).map (fun i => (i.zero, i.size, i.bytes)) = some (some (.bool false), 1, 1) := by kernel_rfl

/-- n bools behind a: the first n bits of V. -/
def BRow (w : World) (a : Option Addr) (n V : Nat) : Prop :=
  n = 0 ∨ ∃ b off, a = some ⟨b, off, none⟩ ∧ b < w.heap.size ∧ ∀ i, i < n → w.cell? ⟨b, off + i, none⟩ = some (bval V i)
section
variable {w w' : World} {a : Option Addr} {n V : Nat}
theorem BRow.get (h : BRow w a n V) (i : Nat) (hi : i < n) : ∃ b off, a = some ⟨b, off, none⟩ ∧ b < w.heap.size ∧ w.cell? ⟨b, off + i, none⟩ = some (.bool (V.testBit i)) := by
  rcases h with h | ⟨b, off, h1, h2, h3⟩
  · omega
  · exact ⟨b, off, h1, h2, h3 i hi⟩
theorem BRow.below {B : Nat} (h : BRow w a n V) (hb : Below B w w') (hB : w.heap.size ≤ B) : BRow w' a n V := by
  rcases h with h | ⟨b, off, h1, h2, h3⟩
  · exact .inl h
  · exact .inr ⟨b, off, h1, Nat.lt_of_lt_of_le h2 hb.size, fun i hi => (hb.cell (p := ⟨b, off + i, none⟩) (show b < B by omega)).trans (h3 i hi)⟩
theorem BRow.take (h : BRow w a n V) (k : Nat) (hk : k ≤ n) : BRow w a k V := by
  rcases h with h | ⟨b, off, h1, h2, h3⟩
  · exact .inl (by omega)
  · exact .inr ⟨b, off, h1, h2, fun i hi => h3 i (by omega)⟩
theorem BRow.congr (h : BRow w a n V) {U : Nat} (hU : ∀ i, i < n → V.testBit i = U.testBit i) : BRow w a n U := by
  rcases h with h | ⟨b, off, h1, h2, h3⟩
  · exact .inl h
  · exact .inr ⟨b, off, h1, h2, fun i hi => by rw [h3 i hi]; unfold bval; rw [hU i hi]⟩
end

/-- The slice v, of the call's own from base on, has the first n bits of V. -/
def OwnV (w : World) (base n V : Nat) (v : Value) : Prop := ∃ g cap, v = .slice (some ⟨g, 0, none⟩) n cap ∧ w.ownsRow base 4 1 v n (bvals n V)
section
variable {w w' : World} {base n V : Nat} {v : Value}
theorem OwnV.row {g cap : Nat} (h : w.ownsRow base 4 1 (.slice (some ⟨g, 0, none⟩) n cap) n (bvals n V)) : BRow w (some ⟨g, 0, none⟩) n V := by
  refine .inr ⟨g, 0, rfl, (World.ownsRow.lt h g (by simp [Value.ownBlock])).2, fun i hi => ?_⟩
  rw [Nat.zero_add, World.ownsRow.cellAt h i (by omega), bvals_at n V i hi]
theorem OwnV.empty (w : World) (base V : Nat) (hb : base ≤ w.heap.size) : OwnV (w.alloc (.cells #[] 4)) base 0 V (.slice (some ⟨w.heap.size, 0, none⟩) 0 0) :=
  ⟨w.heap.size, 0, rfl, World.ownsRow_made w #[] 0 hb (Nat.zero_le _) rfl⟩
theorem OwnV.below {B : Nat} (h : OwnV w base n V v) (hb : Below B w w') (hv : ∀ g, v.ownBlock = some g → g < B) : OwnV w' base n V v := by
  obtain ⟨g, cap, rfl, h1⟩ := h
  have hg := hv g (by simp [Value.ownBlock])
  refine ⟨g, cap, rfl, h1.1, ?_⟩
  rcases h1.2 with hn | ⟨g', cap', cur, e, hbb, hh, r⟩
  · exact .inl hn
  · simp only [Value.slice.injEq, Option.some.injEq, Addr.mk.injEq] at e
    obtain ⟨⟨rfl, _, _⟩, _, rfl⟩ := e
    exact .inr ⟨g, cap, cur, rfl, hbb, (hb.block g hg).trans hh, r⟩
/-- Behind an append of at least one. -/
theorem OwnV.more (hn : 0 < n) (h : w.ownsRow base 4 1 v n (bvals n V)) : OwnV w base n V v := by
  obtain ⟨g, cap, rfl, _⟩ := World.ownsRow.form h hn
  exact ⟨g, cap, rfl, h⟩
end

/-- append(own, l...) where l is a slice of bools that came in. -/
theorem wpList_append_brow {ops : Array Oper} {rest : List Oper} {o : Oper} {a : Act} {Q : Exit → Act → World → Prop} {w : World} (hgd : o.guard = none) (s x : Operand)
    (ho : o.op = .call { callee := .builtin .append, args := #[s, x], argTypes := #[38, 38] })
    (base : Nat) (v : Value) (n V0 : Nat) (hown : w.ownsRow base 4 1 v n (bvals n V0)) (hs : a.eval s = v)
    (p : Option Addr) (k c V1 : Nat) (hx : a.eval x = .slice p k c) (hr : BRow w p k V1) (hnil : p = none → k = 0 ∧ c = 0)
    (h63 : n + k ≤ 1000000000) (hbase : base ≤ w.heap.size)
    (h : ∀ v' w', w'.ownsRow base 4 1 v' (n + k) (bvals n V0 ++ bvals k V1) → w.grownBy w' v.ownBlock → (v = .slice none 0 0 ∨ v' ≠ .slice none 0 0) → wpList Try.prog ops Q rest (a.put o.dst v') w') :
    wpList Try.prog ops Q (o :: rest) a w := by
  obtain ⟨i0, hi, hz0, hz1, hz2⟩ := info_parts info_bool
  have hi' : Try.prog.info? 4 = some i0 := hi
  rcases p with _ | ⟨b, off, sp⟩
  · obtain ⟨rfl, rfl⟩ := hnil rfl
    refine wpList_append_own_none hgd s x 38 ho base 4 i0 1 Try.underlying38 hi' v n _ hs hown hx (h v w ?_ ?_ ?_)
    · simpa [bvals] using hown
    · exact World.grownBy.refl w _
    · by_cases e : v = .slice none 0 0
      · exact .inl e
      · exact .inr e
  · refine wpList_append_own w hgd s x 38 ho base 4 i0 (.bool false) 1 1 Try.underlying38 hi' hz0 hz1 hz2 rfl (by decide) v n _ hs hown ⟨b, off, sp⟩ k c (bvals k V1) hx (by rw [bvals_length, Nat.mul_one]) ?_ (bvals_one _ _) (by unfold maxLen; omega) (by omega) hbase ?_
    · intro j u hj
      have hjk : j < k := by
        have := (List.getElem?_eq_some_iff.1 hj).1
        rwa [bvals_length] at this
      rw [bvals_at k V1 j hjk] at hj
      obtain ⟨b', off', he, _, hc⟩ := hr.get j hjk
      injection he with he
      injection he with e1 e2 e3
      subst e1 e2 e3
      have e : (⟨b, off, none⟩ : Addr).add j = ⟨b, off + j, none⟩ := by unfold Addr.add; split <;> simp_all
      rw [e, hc]
      exact hj
    · intro v' w' h1 h2 h3
      refine h v' w' h1 h2 ?_
      by_cases e : v = .slice none 0 0
      · exact .inl e
      · exact .inr fun e2 => e (h3.1 e2).1

/-- append(own, x): one bool. -/
theorem wpList_append_bool {ops : Array Oper} {rest : List Oper} {o : Oper} {a : Act} {Q : Exit → Act → World → Prop} (w : World) (hgd : o.guard = none) (s x : Operand)
    (ho : o.op = .call { callee := .builtin .append, args := #[s, x], argTypes := #[38, 38] })
    (base : Nat) (v : Value) (n V : Nat) (b : Bool) (hown : OwnV w base n V v) (hb : V.testBit n = b) (hs : a.eval s = v)
    {sz : Nat} (hx : a.eval x = .slice (some ⟨sz, 0, none⟩) 1 1) (hsize : sz = w.heap.size) (hn : n < 1000000000) (hbase : base ≤ w.heap.size)
    (h : ∀ v' w', OwnV w' base (n + 1) V v' → Below base w w' → wpList Try.prog ops Q rest (a.put o.dst v') w') :
    wpList Try.prog ops Q (o :: rest) a (w.alloc (.cells #[.bool b] 4)) := by
  obtain ⟨g, cap, hv, hown⟩ := hown
  refine wpList_append_elem w hgd s x ho Try.underlying38 info_bool rfl (by decide) base v n (bvals n V) [.bool b] hown rfl (by intro y hy; simp at hy; subst hy; rfl) hs hx hsize
    (by unfold maxLen; omega) (by omega) hbase ?_
  intro v' w' h2 h3
  rw [← hb, ← bvals_succ] at h2
  exact h v' w' (OwnV.more (Nat.succ_pos _) h2) (below_grown hown h3 hbase)
end Go.Proofs.Ytginjnpboggnbaa
