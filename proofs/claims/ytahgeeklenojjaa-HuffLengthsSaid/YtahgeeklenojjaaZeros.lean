/- append(own, make([]int, k)...). Conditions: k at least 1. -/
import Derived.Test.YtahgeeklenojjaaIRow
import Derived.Lib.AppendZeros
namespace Go.Proofs.Ytahgeeklenojjaa
open Go.RowKit
set_option maxRecDepth 100000

theorem zeroCells_int (k : Nat) : Builtin.zeroCells #[Value.int .i64 0] k = (List.replicate k (Value.int .i64 0)).toArray := by
  apply Array.ext
  · simp [Builtin.zeroCells]
  · intro i h1 h2
    simp [Builtin.zeroCells, Nat.mod_one]

theorem run_append_zeros (w : World) (base : Nat) (v : Value) (n : Nat) (xs : List Value) (hown : w.ownsRow base 3 1 v n xs) (k : Nat) (h1 : 1 ≤ k) (h2 : n + k ≤ 1000000) (hbase : base ≤ w.heap.size) (ty : TypeId) :
    ∃ v' w', (Builtin.append_ #[22, 3] ty #[v, .int .i64 (k : Int)]).run Try.prog w = .ok v' w' ∧ w'.ownsRow base 3 1 v' (n + k) (xs ++ List.replicate k (.int .i64 0)) ∧ w.grownBy w' v.ownBlock := by
  obtain ⟨i0, hi, hz0, hz1, hz2⟩ := info_parts info_int
  have hi' : Try.prog.info? 3 = some i0 := hi
  have ht : Try.prog.underlying 22 = some (.slice 3) := Try.underlying22
  have htn : Try.prog.underlying 3 = some (.int .i64) := Try.underlying3
  have hlen : (xs ++ List.replicate k (Value.int .i64 0)).length = (n + k) * 1 := by rw [List.length_append, hown.1, List.length_replicate]; omega
  have grown : ∀ (old : Nat), old < n + k → ∀ (row : Option Nat),
      (w.drew.alloc (.cells (xs.toArray ++ (List.replicate k (Value.int .i64 0)).toArray ++ Builtin.zeroCells #[Value.int .i64 0] (grownCap w (n + k) old 3 - (n + k))) 3)).ownsRow base 3 1
        (.slice (some ⟨w.heap.size, 0, none⟩) (n + k) (grownCap w (n + k) old 3)) (n + k) (xs ++ List.replicate k (.int .i64 0)) ∧
      w.grownBy (w.drew.alloc (.cells (xs.toArray ++ (List.replicate k (Value.int .i64 0)).toArray ++ Builtin.zeroCells #[Value.int .i64 0] (grownCap w (n + k) old 3 - (n + k))) 3)) row := by
    intro old ho row
    have hge := grownCap_ge w (n + k) old 3
    have hcm : grownCap w (n + k) old 3 ≤ maxLen := grownCap_le_maxLen w (n + k) old 3 (by unfold maxLen; omega)
    refine ⟨⟨hlen, .inr ⟨w.heap.size, _, _, rfl, hbase, heap_alloc_new w.drew _, hge, hcm, ?_, ?_⟩⟩, ⟨rfl, rfl, rfl, by simp, fun g hg _ => heap_alloc_old w.drew _ hg⟩⟩
    · have hx := hown.1
      rw [Array.size_append, Array.size_append, size_zeroCells, List.size_toArray, List.size_toArray, List.length_replicate]
      show xs.length + k + (grownCap w (n + k) old 3 - (n + k)) * 1 = _
      omega
    · simp only [Array.toList_append, List.append_assoc]
      rw [← List.append_assoc, ← hlen]
      exact List.take_left
  rcases hown.2 with ⟨rfl, rfl⟩ | ⟨g, cap, cur, rfl, hbg, hg, hnc, hcm, hcs, htake⟩
  · have hx : xs = [] := List.eq_nil_of_length_eq_zero (by simpa using hown.1)
    subst hx
    have hr := Lib.run_append_nil_zeros (P := Try.prog) w 22 3 ty 3 i0 (.int .i64 0) .i64 .i64 ht htn hi' hz0 k (by omega) (by omega) (by omega) (by rw [hz2]; omega)
    have hgr := grown 0 (by omega) (Value.ownBlock (.slice none 0 0))
    have ec : (Value.int IntKind.i64 0).cells = #[Value.int .i64 0] := rfl
    rw [ec, zeroCells_int k] at hr
    simp only [Nat.zero_add, List.nil_append, Array.empty_append] at hgr ⊢
    exact ⟨_, _, hr, hgr.1, hgr.2⟩
  · obtain ⟨G, hG⟩ : ∃ G, G = g := ⟨g, rfl⟩
    subst hG
    have hwk : IntKind.i64.wrap (k : Int) = (k : Int) := IntWalk.i64_in _ (by omega)
    have hneg : ¬ ((k : Int) < 0) := by omega
    have h48i : ¬ (281474976710656 < (k : Int) * 8) := by omega
    have hk0 : ¬ (k * 1 = 0) := by omega
    have hk : ¬ k = 0 := by omega
    have ec : (Value.int IntKind.i64 0).cells = #[Value.int .i64 0] := rfl
    by_cases hroom : n + k ≤ cap
    · have hst := run_storeCells_at Try.prog G (n * 1) 3 (List.replicate k (Value.int .i64 0)) 0 cur w hg (by rw [List.length_replicate, hcs]; omega) (by intro u hu; rw [List.eq_of_mem_replicate hu]; rfl)
      simp only [Nat.add_zero, Nat.mul_one] at hst
      have hr : (Builtin.append_ #[22, 3] ty #[.slice (some ⟨G, 0, none⟩) n cap, .int .i64 (k : Int)]).run Try.prog w = .ok (.slice (some ⟨G, 0, none⟩) (n + k) cap) (w.setRow G (cur.toList.take n ++ List.replicate k (Value.int .i64 0) ++ cur.toList.drop (n + (List.replicate k (Value.int .i64 0)).length)).toArray) := by
        simp [Builtin.append_, run_underlying ht, run_underlying htn, sizeOf, typeInfo, zeroValue, hi', hz0, hz1, hz2, asInt, asIntOf, hwk, hneg, h48i, hk, hroom, ec, zeroCells_int, Addr.add_lit]
        rw [hst]
        simp [Result.andThen]
      refine ⟨_, _, hr, ⟨hlen, .inr ⟨G, cap, _, rfl, hbg, setRow_heap w G cur _ 3 _ hg, hroom, hcm, ?_, ?_⟩⟩, ⟨rfl, rfl, rfl, by simp, fun j _ hj => setRow_other w G j _ (fun e => hj (by simp [Value.ownBlock, e]))⟩⟩
      · simp only [List.size_toArray, List.length_append, List.length_take, List.length_drop, Array.length_toList, List.length_replicate]
        omega
      · have hx := hown.1
        rw [Nat.mul_one] at htake
        rw [htake, ← hlen]
        exact List.take_left
    · have holds : ∀ j u, xs[j]? = some u → w.cell? ((⟨G, 0, none⟩ : Addr).add j) = some u := hown.cells (g := G) rfl
      have hgr := grown cap (by omega) (Value.ownBlock (.slice (some ⟨G, 0, none⟩) n cap))
      have hfo := run_firstCells_some (P := Try.prog) w.drew 1 n ⟨G, 0, none⟩ n cap xs hown.1 (by simpa using holds)
      have hfit := growslice_fits (need := n + k) (old := cap) (bytes := 8) (by omega) (by omega)
      have h48' : ¬ (281474976710656 < Builtin.nextslicecap (n + k) cap * 8) := by omega
      have h63' : ¬ (9223372036854775807 < ((n : Int) + (k : Int))) := by omega
      have hr : (Builtin.append_ #[22, 3] ty #[.slice (some ⟨G, 0, none⟩) n cap, .int .i64 (k : Int)]).run Try.prog w = .ok (.slice (some ⟨w.heap.size, 0, none⟩) (n + k) (grownCap w (n + k) cap 3)) (w.drew.alloc (.cells (xs.toArray ++ (List.replicate k (Value.int .i64 0)).toArray ++ Builtin.zeroCells #[Value.int .i64 0] (grownCap w (n + k) cap 3 - (n + k))) 3)) := by
        simp [Builtin.append_, run_underlying ht, run_underlying htn, sizeOf, typeInfo, zeroValue, hi', hz0, hz1, hz2, asInt, asIntOf, hwk, hneg, h48i, hk, hroom, ec, zeroCells_int, Builtin.lenOf, h63', h48', Question.forced, hfo, newRow, grownCap]
      exact ⟨_, _, hr, hgr.1, hgr.2⟩
/-- As an operation of the walk. -/
theorem wpList_append_zeros {ops : Array Oper} {rest : List Oper} {o : Oper} {a : Act} {Q : Exit → Act → World → Prop} {w : World} (hgd : o.guard = none) (s x : Operand)
    (ho : o.op = .call { callee := .builtin .append, args := #[s, x], argTypes := #[22, 3] })
    (base : Nat) (v : Value) (n : Nat) (xs : List Value) (hown : w.ownsRow base 3 1 v n xs) (hs : a.eval s = v) (k : Nat) (hx : a.eval x = .int .i64 (k : Int)) (h1 : 1 ≤ k) (h2 : n + k ≤ 1000000) (hbase : base ≤ w.heap.size)
    (h : ∀ v' w', w'.ownsRow base 3 1 v' (n + k) (xs ++ List.replicate k (.int .i64 0)) → w.grownBy w' v.ownBlock → wpList Try.prog ops Q rest (a.put o.dst v') w') :
    wpList Try.prog ops Q (o :: rest) a w := by
  obtain ⟨v', w', hr, h3, h4⟩ := run_append_zeros w base v n xs hown k h1 h2 hbase o.type
  exact Lib.wpList_append_run w hgd s x 22 3 ho v _ hs hx v' w' hr (h v' w' h3 h4)
end Go.Proofs.Ytahgeeklenojjaa
