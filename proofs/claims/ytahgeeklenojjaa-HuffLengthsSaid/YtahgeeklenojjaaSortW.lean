/- The library's stable sort of pairs, walked: comparing, inserting. Conditions: rows of pairs as they stand in memory. -/
import Derived.Test.YtahgeeklenojjaaSortP
import Derived.Test.YtahgeeklenojjaaBase
import Derived.Deep.RegionHeld3
namespace Go.Proofs.Ytahgeeklenojjaa
open Go.RowKit
set_option maxRecDepth 100000

/-- A pair: its weight, where its symbols lie. -/
structure Pr where
  k : Int
  a : Option Addr
  n : Nat
  c : Nat
def Pr.s (x : Pr) : Value := .slice x.a x.n x.c
def pcell (x : Nat → Pr) (i : Nat) : Value := if i % 2 = 0 then .int .i64 (x (i / 2)).k else (x (i / 2)).s
def pcells (C : Nat) (x : Nat → Pr) : Array Value := fcells (2 * C) (pcell x)
theorem pcells_k (C : Nat) (x : Nat → Pr) (t i : Nat) (hi : i = t * 2) (ht : t < C) : (pcells C x)[i]? = some (.int .i64 (x t).k) := by
  subst hi
  unfold pcells
  rw [fcells_at _ _ _ (by omega)]
  unfold pcell
  rw [if_pos (by omega), show t * 2 / 2 = t by omega]
theorem pcells_s (C : Nat) (x : Nat → Pr) (t i : Nat) (hi : i = t * 2 + 1) (ht : t < C) : (pcells C x)[i]? = some ((x t).s) := by
  subst hi
  unfold pcells
  rw [fcells_at _ _ _ (by omega)]
  unfold pcell
  rw [if_neg (by omega), show (t * 2 + 1) / 2 = t by omega]
theorem pcells_sw (C : Nat) (x : Nat → Pr) (i j : Nat) (hij : i ≠ j) :
    ((((pcells C x).setIfInBounds (i * 2) (.int .i64 (x j).k)).setIfInBounds (i * 2 + 1) ((x j).s)).setIfInBounds (j * 2) (.int .i64 (x i).k)).setIfInBounds (j * 2 + 1) ((x i).s) = pcells C (sw x i j) := by
  unfold pcells
  rw [fcells_set, fcells_set, fcells_set, fcells_set]
  refine fcells_congr _ _ _ fun p _ => ?_
  unfold pcell sw
  by_cases h0 : p % 2 = 0
  · rw [if_neg (by omega)]
    by_cases h1 : p / 2 = j
    · rw [if_pos (by omega), if_pos h0, if_neg (by omega), if_pos h1]
    · rw [if_neg (by omega), if_neg (by omega), if_pos h0]
      by_cases h2 : p / 2 = i
      · rw [if_pos (by omega), if_pos h2]; first | rw [if_pos h0] | rw [if_neg h0]
      · rw [if_neg (by omega), if_neg h2, if_neg h1, if_pos h0]
  · by_cases h1 : p / 2 = j
    · rw [if_pos (by omega), if_neg h0, if_neg (by omega), if_pos h1]
    · rw [if_neg (by omega), if_neg (by omega), if_neg h0]
      by_cases h2 : p / 2 = i
      · rw [if_pos (by omega), if_pos h2]; first | rw [if_pos h0] | rw [if_neg h0]
      · rw [if_neg (by omega), if_neg (by omega), if_neg h2, if_neg h1, if_neg h0]
/-- The pairs x stand at the beginning of block g. -/
def PB (w : World) (g C : Nat) (x : Nat → Pr) : Prop := ∃ R : Array Value, Blk w g 56 (pcells C x ++ R)
theorem pcells_size (C : Nat) (x : Nat → Pr) : (pcells C x).size = 2 * C := fcells_size _ _
theorem papp_at (C : Nat) (x : Nat → Pr) (R : Array Value) (i : Nat) (hi : i < 2 * C) : (pcells C x ++ R)[i]? = (pcells C x)[i]? := by
  rw [Array.getElem?_append_left (by rw [pcells_size]; exact hi)]
theorem papp_set2 (C : Nat) (A : Array Value) (hA : A.size = 2 * C) (R : Array Value) (i : Nat) (v : Value) (hi : i < 2 * C) : (A ++ R).setIfInBounds i v = A.setIfInBounds i v ++ R :=
  Array.setIfInBounds_append_left (by omega)
theorem papp_set (C : Nat) (x : Nat → Pr) (R : Array Value) (i : Nat) (v : Value) (hi : i < 2 * C) : (pcells C x ++ R).setIfInBounds i v = (pcells C x).setIfInBounds i v ++ R := papp_set2 C _ (pcells_size C x) R i v hi
/-- Weights within bounds. -/
def KB (x : Nat → Pr) (C : Nat) : Prop := ∀ i, i < C → -1000000000000000 ≤ (x i).k ∧ (x i).k ≤ 1000000000000000
section
variable {w w' : World} {g C : Nat} {x : Nat → Pr}
theorem PB.k (h : PB w g C x) (i : Nat) (hi : i < C) : w.cell? ⟨g, i * 2, none⟩ = some (.int .i64 (x i).k) := by
  obtain ⟨R, h⟩ := h
  exact (Blk.cell h (i * 2)).trans ((papp_at C x R _ (by omega)).trans (pcells_k C x i _ rfl hi))
theorem PB.s (h : PB w g C x) (i : Nat) (hi : i < C) : w.cell? ⟨g, i * 2 + 1, none⟩ = some (x i).s := by
  obtain ⟨R, h⟩ := h
  exact (Blk.cell h (i * 2 + 1)).trans ((papp_at C x R _ (by omega)).trans (pcells_s C x i _ rfl hi))
theorem PB.lt (h : PB w g C x) : g < w.heap.size := by obtain ⟨R, h⟩ := h; exact Blk.lt h
theorem PB.frozen (h : PB w g C x) (i : Nat) : w.frozen? ⟨g, i, none⟩ = false := by obtain ⟨R, h⟩ := h; exact Blk.frozen h i
theorem PB.sw (h : PB w g C x) (i j : Nat) (hij : i ≠ j) (hi : i < C) (hj : j < C) : PB ((((w.setCell ⟨g, i * 2, none⟩ (.int .i64 (x j).k)).setCell ⟨g, i * 2 + 1, none⟩ (x j).s).setCell ⟨g, j * 2, none⟩ (.int .i64 (x i).k)).setCell ⟨g, j * 2 + 1, none⟩ (x i).s) g C (Go.Proofs.Ytahgeeklenojjaa.sw x i j) := by
  obtain ⟨R, h⟩ := h
  refine ⟨R, ?_⟩
  have h4 := (((Blk.set_ h (i * 2) (.int .i64 (x j).k)).set_ (i * 2 + 1) (x j).s).set_ (j * 2) (.int .i64 (x i).k)).set_ (j * 2 + 1) (x i).s
  rw [papp_set C x R _ _ (by omega), papp_set2 C _ (by rw [Array.size_setIfInBounds, pcells_size]) R _ _ (by omega), papp_set2 C _ (by rw [Array.size_setIfInBounds, Array.size_setIfInBounds, pcells_size]) R _ _ (by omega), papp_set2 C _ (by rw [Array.size_setIfInBounds, Array.size_setIfInBounds, Array.size_setIfInBounds, pcells_size]) R _ _ (by omega), pcells_sw C x i j hij] at h4
  exact h4
theorem PB.grown {r : Option Nat} (h : PB w g C x) (hg : w.grownBy w' r) (hr : some g ≠ r) : PB w' g C x := by obtain ⟨R, h⟩ := h; exact ⟨R, Blk.grown h hg hr⟩
theorem PB.below {B : Nat} (h : PB w g C x) (hb : Below B w w') (hB : g < B) : PB w' g C x := by obtain ⟨R, h⟩ := h; exact ⟨R, Blk.below h hb hB⟩
theorem KB.sw (h : KB x C) (i j : Nat) (hi : i < C) (hj : j < C) : KB (Go.Proofs.Ytahgeeklenojjaa.sw x i j) C := fun p hp => by
  unfold Go.Proofs.Ytahgeeklenojjaa.sw
  split
  · exact h j hj
  · split
    · exact h i hi
    · exact h p hp
end
/-- Nothing but block g is changed. -/
def Ch1 (w w' : World) (g : Nat) : Prop := w.grownBy w' (some g)
theorem Ch1.refl (w : World) (g : Nat) : Ch1 w w g := ⟨rfl, rfl, rfl, Nat.le_refl _, fun _ _ _ => rfl⟩
theorem Ch1.trans {w w1 w2 : World} {g : Nat} (h : Ch1 w w1 g) (k : Ch1 w1 w2 g) : Ch1 w w2 g :=
  ⟨k.os.trans h.os, k.tape.trans h.tape, k.output.trans h.output, Nat.le_trans h.size k.size, fun b hb hr => (k.block b (Nat.lt_of_lt_of_le hb h.size) hr).trans (h.block b hb hr)⟩
theorem Ch1.below {w w1 w2 : World} {g : Nat} (h : Ch1 w w1 g) (k : Below w1.heap.size w1 w2) : Ch1 w w2 g :=
  ⟨k.os.trans h.os, k.tape.trans h.tape, k.output.trans h.output, Nat.le_trans h.size k.size, fun b hb hr => (k.block b (Nat.lt_of_lt_of_le hb h.size)).trans (h.block b hb hr)⟩
theorem Ch1.set {w w1 : World} {g : Nat} (h : Ch1 w w1 g) (i : Nat) (u : Value) : Ch1 w (w1.setCell ⟨g, i, none⟩ u) g :=
  ⟨h.os, h.tape, h.output, by simpa [World.setCell] using h.size, fun b hb hr => (Below.heap_setCell w1 ⟨g, i, none⟩ u b (fun e => hr (congrArg some e))).trans (h.block b hb hr)⟩
theorem Ch1.drewN {w w1 : World} {g : Nat} (h : Ch1 w w1 g) (n : Nat) : Ch1 w (w1.drewN n) g := ⟨h.os, h.tape, h.output, h.size, h.block⟩

theorem Ch1.drew {w w1 : World} {g : Nat} (h : Ch1 w w1 g) : Ch1 w w1.drew g := ⟨h.os, h.tape, h.output, h.size, h.block⟩

theorem weigh_any (k1 k2 : Int) (v1 v2 : Value) (h1 : -1000000000000000 ≤ k1 ∧ k1 ≤ 1000000000000000) (h2 : -1000000000000000 ≤ k2 ∧ k2 ≤ 1000000000000000) (w : World) :
    Calls Try.prog 23 #[.agg #[.int .i64 k1, v1], .agg #[.int .i64 k2, v2]] w fun e w' => e = .returned (.int .i64 (k1 - k2)) ∧ Below w.heap.size w w' := by
  have B1 := Blk.new w 56 #[.int .i64 k1, v1]
  have B2 := Blk.new (w.alloc (.cells #[.int .i64 k1, v1] 56)) 56 #[.int .i64 k2, v2]
  have c1 := (B1.alloc (.cells #[.int .i64 k2, v2] 56)).cell 0
  have c2 := B2.cell 0
  have hb := ((Below.refl w.heap.size w).alloc (Nat.le_refl _) (.cells #[.int .i64 k1, v1] 56)).alloc (by simp) (.cells #[.int .i64 k2, v2] 56)
  simp at c1 c2
  have Hb := Lib.hid hb
  clear hb B1 B2
  go_enter Try.func23, Try.ntmps23
  go_wp2_with fail
  go_ret
  exact ⟨by congr 3, Hb.out⟩
end Go.Proofs.Ytahgeeklenojjaa
