/- The chunker's memory while it writes. Conditions: none. -/
import Derived.Test.YtgjofpefglbjjaaKNew
namespace Go.Proofs.Ytgjofpefglbjjaa
open Go.RowKit
set_option maxRecDepth 100000

theorem info_str : (Try.prog.info? 9).map (fun i => (i.zero, i.size, i.bytes)) = some (some (.string ⟨#[]⟩), 1, 16) := by kernel_rfl
def svals (l : List (List UInt8)) : List Value := l.map fun x => .string ⟨x.toArray⟩
theorem svals_length (l : List (List UInt8)) : (svals l).length = l.length := by simp [svals]
theorem svals_snoc (l : List (List UInt8)) (x : List UInt8) : svals (l ++ [x]) = svals l ++ [.string ⟨x.toArray⟩] := by simp [svals]
/-- The slice v owns the texts l. -/
def OwnS (w : World) (base : Nat) (v : Value) (l : List (List UInt8)) : Prop := w.ownsRow base 9 1 v l.length (svals l)

/-- Two rows of unlike types share no block. -/
theorem rows_apart {w : World} {b1 b2 e1 e2 s1 s2 n1 n2 : Nat} {v1 v2 : Value} {x1 x2 : List Value} (h1 : w.ownsRow b1 e1 s1 v1 n1 x1) (h2 : w.ownsRow b2 e2 s2 v2 n2 x2) (hne : e1 ≠ e2) : v1.ownBlock = none ∨ v1.ownBlock ≠ v2.ownBlock := by
  rcases h1.2 with ⟨rfl, _⟩ | ⟨g, cap, cur, rfl, _, hh, _⟩
  · exact .inl rfl
  · right
    rcases h2.2 with ⟨rfl, _⟩ | ⟨g', cap', cur', rfl, _, hh', _⟩
    · simp [Value.ownBlock]
    · intro e
      simp only [Value.ownBlock, Option.some.injEq] at e
      subst e
      rw [hh] at hh'
      simp only [Option.some.injEq, Obj.cells.injEq] at hh'
      exact hne hh'.2.1
theorem row_blk {w : World} {b e s n P t : Nat} {v : Value} {x : List Value} {cs : Array Value} (h : w.ownsRow b e s v n x) (hB : Blk w P t cs) (hne : e ≠ t) : v.ownBlock = none ∨ v.ownBlock ≠ some P := by
  rcases h.2 with ⟨rfl, _⟩ | ⟨g, cap, cur, rfl, _, hh, _⟩
  · exact .inl rfl
  · right
    intro e'
    simp only [Value.ownBlock, Option.some.injEq] at e'
    subst e'
    unfold Blk at hB
    rw [hh] at hB
    simp only [Option.some.injEq, Obj.cells.injEq] at hB
    exact hne hB.2.1
theorem keep_blk {w : World} {g P t : Nat} {s : ByteArray} {cs : Array Value} (h : KeepB w g s) (hB : Blk w P t cs) : g ≠ P := by
  rintro rfl
  obtain ⟨cs', fr, h1, h2, _⟩ := h
  unfold Blk at hB
  rw [h1] at hB
  simp only [Option.some.injEq, Obj.cells.injEq] at hB
  exact h2 hB.2.2
theorem KeepB.row {w w' : World} {g : Nat} {s : ByteArray} {row : Option Nat} (h : KeepB w g s) (hg : w.grownBy w' row) (hne : some g ≠ row) : KeepB w' g s := by
  have hl := h.lt
  obtain ⟨cs, fr, h1, h2⟩ := h
  exact ⟨cs, fr, (hg.block g hl hne).trans h1, h2⟩

/-- Nothing old changed but the block P and the row of v. -/
def KChg (w w' : World) (P : Nat) (v : Value) : Prop := (w'.os = w.os ∧ w'.tape = w.tape ∧ w'.output = w.output) ∧ w.heap.size ≤ w'.heap.size ∧ ∀ g, g < w.heap.size → g ≠ P → v.ownBlock ≠ some g → w'.heap[g]? = w.heap[g]?
def KFresh (w : World) (v v' : Value) : Prop := ∀ g, g < w.heap.size → v.ownBlock ≠ some g → v'.ownBlock ≠ some g
theorem KChg.refl (w : World) (P : Nat) (v : Value) : KChg w w P v := ⟨⟨rfl, rfl, rfl⟩, Nat.le_refl _, fun _ _ _ _ => rfl⟩
theorem KFresh.refl (w : World) (v : Value) : KFresh w v v := fun _ _ h => h
theorem KChg.row {w w1 w2 : World} {P : Nat} {v : Value} {row : Option Nat} (h : KChg w w1 P v) (hg : w1.grownBy w2 row) (hr : ∀ g, row = some g → w.heap.size ≤ g ∨ g = P ∨ v.ownBlock = some g) : KChg w w2 P v :=
  ⟨⟨hg.os.trans h.1.1, hg.tape.trans h.1.2.1, hg.output.trans h.1.2.2⟩, Nat.le_trans h.2.1 hg.size, fun g hgl hP hv => (hg.block g (Nat.lt_of_lt_of_le hgl h.2.1) (fun e => by
    rcases hr g e.symm with h1 | h1 | h1
    · omega
    · exact hP h1
    · exact hv h1)).trans (h.2.2 g hgl hP hv)⟩

/-- What the chunker's Write holds: begun g in v, the chunks outs in vo, the text s in gs. -/
structure KW (w wr : World) (P base gs : Nat) (v0 v vo : Value) (s : ByteArray) (g : List UInt8) (outs : List (List UInt8)) : Prop where
  own : OwnB wr base v g
  out : OwnS wr w.heap.size vo outs
  keep : KeepB wr gs s
  chg : KChg w wr P v0
  fresh : KFresh w v0 v
section
variable {w wr wr' : World} {P base gs : Nat} {v0 v vo : Value} {s : ByteArray} {g : List UInt8} {outs : List (List UInt8)}
theorem KW.size (h : KW w wr P base gs v0 v vo s g outs) : w.heap.size ≤ wr.heap.size := h.chg.2.1
theorem KW.same (h : KW w wr P base gs v0 v vo s g outs) (hg : wr.grownBy wr' none) : KW w wr' P base gs v0 v vo s g outs :=
  ⟨World.ownsRow.kept h.own hg (by
      rcases hb : v.ownBlock with _ | _
      · exact .inl rfl
      · exact .inr (by simp)), World.ownsRow.kept h.out hg (by
      rcases hb : vo.ownBlock with _ | _
      · exact .inl rfl
      · exact .inr (by simp)), h.keep.row hg (by simp), h.chg.row hg (fun _ e => by cases e), h.fresh⟩
theorem KW.alloc (h : KW w wr P base gs v0 v vo s g outs) (o : Obj) : KW w (wr.alloc o) P base gs v0 v vo s g outs := h.same (World.grownBy_alloc _ _ _)
theorem KW.drewN (h : KW w wr P base gs v0 v vo s g outs) (n : Nat) : KW w (wr.drewN n) P base gs v0 v vo s g outs := h.same (only_drewN (only_refl _ _) n)
theorem KW.drew (h : KW w wr P base gs v0 v vo s g outs) : KW w wr.drew P base gs v0 v vo s g outs := h.same (only_drew (only_refl _ _))
/-- Only the chunker's own block changed. -/
theorem KW.block {cs : Array Value} (h : KW w wr P base gs v0 v vo s g outs) (hB : Blk wr P 74 cs) (hg : wr.grownBy wr' (some P)) : KW w wr' P base gs v0 v vo s g outs :=
  ⟨World.ownsRow.kept h.own hg (row_blk h.own hB (by decide)), World.ownsRow.kept h.out hg (row_blk h.out hB (by decide)), h.keep.row hg (fun e => keep_blk h.keep hB (by injection e)), h.chg.row hg (fun k e => by injection e with e; exact .inr (.inl e.symm)), h.fresh⟩
/-- The begun chunk grew. -/
theorem KW.more {v' : Value} {g' : List UInt8} (h : KW w wr P base gs v0 v vo s g outs) (hg : wr.grownBy wr' v.ownBlock) (hown : OwnB wr' base v' g') (hf : ∀ k, k < wr.heap.size → v.ownBlock ≠ some k → v'.ownBlock ≠ some k) : KW w wr' P base gs v0 v' vo s g' outs :=
  ⟨hown, World.ownsRow.kept h.out hg (rows_apart h.out h.own (by decide)), KeepB.grown h.keep h.own hg,
    ⟨⟨hg.os.trans h.chg.1.1, hg.tape.trans h.chg.1.2.1, hg.output.trans h.chg.1.2.2⟩, Nat.le_trans h.chg.2.1 hg.size, fun k hk hP hv => (hg.block k (Nat.lt_of_lt_of_le hk h.chg.2.1) (fun e => h.fresh k hk hv e.symm)).trans (h.chg.2.2 k hk hP hv)⟩,
    fun k hk hv => hf k (Nat.lt_of_lt_of_le hk h.chg.2.1) (h.fresh k hk hv)⟩
/-- A chunk more. -/
theorem KW.push {vo' : Value} {outs' : List (List UInt8)} (h : KW w wr P base gs v0 v vo s g outs) (hg : wr.grownBy wr' vo.ownBlock) (hown : OwnS wr' w.heap.size vo' outs') : KW w wr' P base gs v0 v vo' s g outs' :=
  ⟨World.ownsRow.kept h.own hg (rows_apart h.own h.out (by decide)), hown, KeepB.grown h.keep h.out hg, h.chg.row hg (fun k e => .inl ((World.ownsRow.lt h.out k e).1)), h.fresh⟩
/-- begun = begun[:0]. -/
theorem KW.cut {gb n cap : Nat} (h : KW w wr P base gs v0 (.slice (some ⟨gb, 0, none⟩) n cap) vo s g outs) : KW w wr P base gs v0 (.slice (some ⟨gb, 0, none⟩) 0 cap) vo s [] outs := by
  refine ⟨?_, h.out, h.keep, h.chg, h.fresh⟩
  obtain ⟨_, h2⟩ := h.own
  refine ⟨by simp [bcells], ?_⟩
  rcases h2 with ⟨e, _⟩ | ⟨g', cap', cur, e, hb, hh, _, hc, hs, _⟩
  · cases e
  · simp only [Value.slice.injEq, Option.some.injEq, Addr.mk.injEq] at e
    obtain ⟨⟨rfl, _, _⟩, _, rfl⟩ := e
    exact .inr ⟨gb, cap, cur, rfl, hb, hh, Nat.zero_le _, hc, hs, by simp [bcells]⟩
end

/-- The chunker at block P: it has seen h, and begun g, which lies in v. -/
def KAt (w : World) (P base mn b mx : Nat) (h g : List UInt8) (v : Value) (cl : Bool) : Prop := ∃ ring t, Blk w P 74 (kcells mn b mx ring t (fp h) og v cl) ∧ KRing ring t h ∧ OwnB w base v g
end Go.Proofs.Ytgjofpefglbjjaa
