/- A slice of ints, told as a function. Conditions: none. -/
import Derived.Test.YtahgeeklenojjaaBase
import Derived.Laws.AppendOwnNone
namespace Go.Proofs.Ytahgeeklenojjaa
open Go.RowKit
set_option maxRecDepth 100000

/-- The first n numbers behind a are m 0, m 1, .. -/
def IRow (w : World) (a : Option Addr) (n : Nat) (m : Nat → Int) : Prop :=
  n = 0 ∨ ∃ b off, a = some ⟨b, off, none⟩ ∧ b < w.heap.size ∧ ∀ i, i < n → w.cell? ⟨b, off + i, none⟩ = some (.int .i64 (m i))

section
variable {w w' : World} {a : Option Addr} {n : Nat} {m : Nat → Int}
theorem IRow.nil (w : World) (a : Option Addr) (m : Nat → Int) : IRow w a 0 m := .inl rfl
theorem IRow.get (h : IRow w a n m) (i : Nat) (hi : i < n) : ∃ b off, a = some ⟨b, off, none⟩ ∧ b < w.heap.size ∧ w.cell? ⟨b, off + i, none⟩ = some (.int .i64 (m i)) := by
  rcases h with h | ⟨b, off, h1, h2, h3⟩
  · omega
  · exact ⟨b, off, h1, h2, h3 i hi⟩
theorem IRow.below (h : IRow w a n m) (hb : Below w.heap.size w w') : IRow w' a n m := by
  rcases h with h | ⟨b, off, h1, h2, h3⟩
  · exact .inl h
  · exact .inr ⟨b, off, h1, Nat.lt_of_lt_of_le h2 hb.size, fun i hi => (hb.cell (p := ⟨b, off + i, none⟩) h2).trans (h3 i hi)⟩
theorem IRow.take (h : IRow w a n m) (k : Nat) (hk : k ≤ n) : IRow w a k m := by
  rcases h with h | ⟨b, off, h1, h2, h3⟩
  · exact .inl (by omega)
  · exact .inr ⟨b, off, h1, h2, fun i hi => h3 i (by omega)⟩
end

theorem info_int : (Try.prog.info? 3).map (fun i => (i.zero, i.size, i.bytes)) = some (some (.int .i64 0), 1, 8) := by kernel_rfl

/-- The cells of ints. -/
def icells (n : Nat) (m : Nat → Int) : List Value := (List.range n).map fun i => .int .i64 (m i)
theorem icells_length (n : Nat) (m : Nat → Int) : (icells n m).length = n := by simp [icells]
theorem icells_at (n : Nat) (m : Nat → Int) (i : Nat) (h : i < n) : (icells n m)[i]? = some (.int .i64 (m i)) := by simp [icells, h]
theorem icells_one (n : Nat) (m : Nat → Int) : ∀ u ∈ icells n m, u.oneCell' = true := by
  intro u hu
  simp only [icells, List.mem_map] at hu
  obtain ⟨i, _, rfl⟩ := hu
  rfl
theorem icells_succ (n : Nat) (m : Nat → Int) : icells (n + 1) m = icells n m ++ [.int .i64 (m n)] := by simp [icells, List.range_succ]

theorem IRow.ofOwn {w : World} {base g n cap : Nat} {m : Nat → Int} (h : w.ownsRow base 3 1 (.slice (some ⟨g, 0, none⟩) n cap) n (icells n m)) : IRow w (some ⟨g, 0, none⟩) n m := by
  refine .inr ⟨g, 0, rfl, (World.ownsRow.lt h g (by simp [Value.ownBlock])).2, fun i hi => ?_⟩
  rw [Nat.zero_add, World.ownsRow.cellAt h i (by omega), icells_at n m i hi]
/-- append(own, l...) where l is a slice of ints that came in. -/
theorem wpList_append_irow {ops : Array Oper} {rest : List Oper} {o : Oper} {a : Act} {Q : Exit → Act → World → Prop} {w : World} (hgd : o.guard = none) (s x : Operand)
    (ho : o.op = .call { callee := .builtin .append, args := #[s, x], argTypes := #[22, 22] })
    (base : Nat) (v : Value) (n : Nat) (m0 : Nat → Int) (hown : w.ownsRow base 3 1 v n (icells n m0)) (hs : a.eval s = v)
    (p : Option Addr) (k c : Nat) (m1 : Nat → Int) (hx : a.eval x = .slice p k c) (hr : IRow w p k m1) (hnil : p = none → k = 0 ∧ c = 0)
    (h63 : n + k ≤ 1000000000) (hbase : base ≤ w.heap.size)
    (h : ∀ v' w', w'.ownsRow base 3 1 v' (n + k) (icells n m0 ++ icells k m1) → w.grownBy w' v.ownBlock → (v = .slice none 0 0 ∨ v' ≠ .slice none 0 0) → wpList Try.prog ops Q rest (a.put o.dst v') w') :
    wpList Try.prog ops Q (o :: rest) a w := by
  obtain ⟨i0, hi, hz0, hz1, hz2⟩ := info_parts info_int
  have hi' : Try.prog.info? 3 = some i0 := hi
  rcases p with _ | ⟨b, off, sp⟩
  · obtain ⟨rfl, rfl⟩ := hnil rfl
    refine wpList_append_own_none hgd s x 22 ho base 3 i0 1 Try.underlying22 hi' v n _ hs hown hx (h v w ?_ ?_ ?_)
    · simpa [icells] using hown
    · exact World.grownBy.refl w _
    · by_cases e : v = .slice none 0 0
      · exact .inl e
      · exact .inr e
  · refine wpList_append_own w hgd s x 22 ho base 3 i0 (.int .i64 0) 1 8 Try.underlying22 hi' hz0 hz1 hz2 rfl (by decide) v n _ hs hown ⟨b, off, sp⟩ k c (icells k m1) hx (by rw [icells_length, Nat.mul_one]) ?_ (icells_one _ _) (by unfold maxLen; omega) (by omega) hbase ?_
    · intro j u hj
      have hjk : j < k := by
        have := (List.getElem?_eq_some_iff.1 hj).1
        rwa [icells_length] at this
      rw [icells_at k m1 j hjk] at hj
      obtain ⟨b', off', he, _, hc⟩ := hr.get j hjk
      injection he with he
      injection he with e1 e2 e3
      subst e1 e2 e3
      have e : (⟨b, off, none⟩ : Addr).add j = ⟨b, off + j, none⟩ := by unfold Addr.add; split <;> simp_all
      rw [e, hc]
      exact hj
    · intro v' w' h1 h2 h3
      refine h v' w' h1 h2 ?_
      by_cases e : v = .slice none 0 0
      · exact .inl e
      · exact .inr fun e2 => e (h3.1 e2).1
end Go.Proofs.Ytahgeeklenojjaa
