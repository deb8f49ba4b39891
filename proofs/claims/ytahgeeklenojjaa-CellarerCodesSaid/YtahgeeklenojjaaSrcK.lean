/- Small laws of sources. Conditions: none. -/
import Derived.Test.YtahgeeklenojjaaSourceA
namespace Go.Proofs.Ytahgeeklenojjaa
open Go.RowKit
set_option maxRecDepth 100000

theorem SrcAt.grown {w w' : World} {P p : Nat} {s : ByteArray} {row : Option Nat} (h : SrcAt w P s p) (hg : w.grownBy w' row) (hne : some P ≠ row) : SrcAt w' P s p := Blk.grown h hg hne
theorem SrcAt.below {w w' : World} {P p B : Nat} {s : ByteArray} (h : SrcAt w P s p) (hb : Below B w w') (hP : P < B) : SrcAt w' P s p := Blk.below h hb hP
theorem SrcAt.lt {w : World} {P p : Nat} {s : ByteArray} (h : SrcAt w P s p) : P < w.heap.size := Blk.lt h
/-- Take with its answer told. -/
theorem take_at (P : Nat) (s : ByteArray) (p k x p2 : Nat) (hk : k ≤ 32) (hx : bitsAt s p k = x) (hp2 : p + k = p2) (hs : s.size ≤ 100000000) (hp : p ≤ 1000000000) (w : World) (hS : SrcAt w P s p) :
    Calls Try.prog 28 #[.pointer (some ⟨P, 0, none⟩), .int .i64 (k : Int)] w fun e w' => e = .returned (.int .u32 (x : Int)) ∧ SrcAt w' P s p2 ∧ w.grownBy w' (some P) ∧ w'.heap.size = w.heap.size := by
  rw [← hx, ← hp2]
  exact srcTake_any P s p k (k : Int) (.inr (.inl ⟨rfl, hk⟩)) hs hp w hS
theorem below_row {w0 w w' : World} {P : Nat} (h : Below w0.heap.size w0 w) (hg : w.grownBy w' (some P)) (hP : w0.heap.size ≤ P) : Below w0.heap.size w0 w' :=
  ⟨hg.os.trans h.os, hg.tape.trans h.tape, hg.output.trans h.output, Nat.le_trans h.size hg.size, fun g hgl =>
    (hg.block g (Nat.lt_of_lt_of_le hgl h.size) (fun e => by injection e with e; omega)).trans (h.block g hgl)⟩
end Go.Proofs.Ytahgeeklenojjaa
