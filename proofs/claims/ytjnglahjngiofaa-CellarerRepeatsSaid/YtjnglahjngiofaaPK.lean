/- A sink that holds fields. Conditions: none. -/
import Derived.Test.YtjnglahjngiofaaSink2
import Derived.Test.YtjnglahjngiofaaEncP
namespace Go.Proofs.Ytjnglahjngiofaa
open Go.RowKit
set_option maxRecDepth 100000

/-- The sink at P holds the fields l; what was there before w0 is unchanged. -/
def PK (w0 W : World) (P : Nat) (v : Value) (l : List (Nat × Nat)) : Prop := SinkAt W P v (encV l) (encN l) ∧ Below w0.heap.size w0 W ∧ w0.heap.size ≤ P
/-- Blocks of other types are left alone. -/
def KeepT (W W' : World) : Prop := ∀ B t cs, t ≠ 84 → t ≠ 5 → Blk W B t cs → Blk W' B t cs
theorem KeepT.trans {W W1 W2 : World} (h : KeepT W W1) (k : KeepT W1 W2) : KeepT W W2 := fun B t cs h1 h2 h3 => k B t cs h1 h2 (h B t cs h1 h2 h3)
theorem KeepT.below {W W' : World} (h : Below W.heap.size W W') : KeepT W W' := fun _ _ _ _ _ h3 => h3.below h h3.lt
theorem pk_ne {w : World} {A P t u : Nat} {cs ds : Array Value} (h : Blk w A t cs) (k : Blk w P u ds) (hne : t ≠ u) : A ≠ P := by
  rintro rfl
  have h1 : w.heap[A]? = some (.cells cs t) := h
  have h2 : w.heap[A]? = some (.cells ds u) := k
  rw [h1] at h2
  simp only [Option.some.injEq, Obj.cells.injEq] at h2
  exact hne h2.2.1
theorem pk_row {w : World} {b e s n A t : Nat} {v : Value} {x : List Value} {cs : Array Value} (h : w.ownsRow b e s v n x) (hB : Blk w A t cs) (hne : e ≠ t) : v.ownBlock ≠ some A := by
  rcases trow_blk h hB hne with e | e
  · rw [e]; simp
  · exact e
theorem pk_keep {W W' : World} {P V c : Nat} {v : Value} (hS : SinkAt W P v V c) (hc : Chg W W' P v) : KeepT W W' := fun A _ _ h1 h2 h3 =>
  (hc.2.2 A h3.lt (pk_ne h3 hS.1 h1) (pk_row hS.2.1 h3 (Ne.symm h2))).trans h3
theorem PK.below {w0 W W' : World} {P : Nat} {v : Value} {l : List (Nat × Nat)} (h : PK w0 W P v l) (hb : Below W.heap.size W W') : PK w0 W' P v l := by
  have hlt := World.ownsRow.lt h.1.2.1
  refine ⟨⟨h.1.1.below hb h.1.1.lt, ⟨h.1.2.1.1, ?_⟩, h.1.2.2⟩, h.2.1.trans (hb.mono h.2.1.size), h.2.2⟩
  rcases h.1.2.1.2 with h2 | ⟨g, cap, cur, rfl, h3, h4, h5⟩
  · exact .inl h2
  · exact .inr ⟨g, cap, cur, rfl, h3, (hb.block g (hlt g rfl).2).trans h4, h5⟩
theorem PK.drew {w0 W : World} {P : Nat} {v : Value} {l : List (Nat × Nat)} (h : PK w0 W P v l) : PK w0 W.drew P v l := h.below ⟨rfl, rfl, rfl, Nat.le_refl _, fun _ _ => rfl⟩
theorem PK.drewN {w0 W : World} {P : Nat} {v : Value} {l : List (Nat × Nat)} (h : PK w0 W P v l) (n : Nat) : PK w0 (W.drewN n) P v l := h.below ⟨rfl, rfl, rfl, Nat.le_refl _, fun _ _ => rfl⟩
theorem PK.new (w : World) : PK w (w.alloc (.cells #[.slice none 0 0, .int .u64 0, .int .i64 0] 84)) w.heap.size (.slice none 0 0) [] :=
  ⟨⟨Blk.new w 84 _, World.ownsRow_nil _ _ _ _, by decide⟩, (Below.refl w.heap.size w).alloc (Nat.le_refl _) _, Nat.le_refl _⟩
theorem PK.chg {w0 W W' : World} {P : Nat} {v v' : Value} {l l' : List (Nat × Nat)} (h : PK w0 W P v l) (hS : SinkAt W' P v' (encV l') (encN l')) (hc : Chg W W' P v) : PK w0 W' P v' l' :=
  ⟨hS, hc.below h.2.1 h.2.2 fun g e => by have := (World.ownsRow.lt h.1.2.1 g e).1; have := h.2.2; omega, h.2.2⟩

theorem put_pk (w0 : World) (P : Nat) (v : Value) (l : List (Nat × Nat)) (x k : Nat) (N : Int) (hx : x < 4294967296) (hN : Clamp N k) (hc : encN l ≤ 900000000) (W : World) (h : PK w0 W P v l) :
    Calls Try.prog 40 #[.pointer (some ⟨P, 0, none⟩), .int .u32 (x : Int), .int .i64 N] W fun e W' => e = .returned (.tuple #[]) ∧ ∃ v', PK w0 W' P v' (l ++ [(x, k)]) ∧ KeepT W W' :=
  (sinkPut_any P v _ _ x k N hx hN (by omega) W h.1).mono fun e W' ⟨h1, v', h2, h3, _⟩ => ⟨h1, v', h.chg (by rw [encV_snoc, encN_snoc]; exact h2) h3, pk_keep h.1 h3⟩
theorem turn_pk (w0 : World) (P : Nat) (v : Value) (l : List (Nat × Nat)) (x k : Nat) (N : Int) (hx : x < 4294967296) (hN : Clamp N k) (hc : encN l ≤ 900000000) (W : World) (h : PK w0 W P v l) :
    Calls Try.prog 41 #[.pointer (some ⟨P, 0, none⟩), .int .u32 (x : Int), .int .i64 N] W fun e W' => e = .returned (.tuple #[]) ∧ ∃ v', PK w0 W' P v' (l ++ [(rev x k, k)]) ∧ KeepT W W' :=
  (sinkTurn_any P v _ _ x k N hx hN (by omega) W h.1).mono fun e W' ⟨h1, v', h2, h3, _⟩ => ⟨h1, v', h.chg (by rw [encV_snoc, encN_snoc]; exact h2) h3, pk_keep h.1 h3⟩
theorem all_pk (w0 : World) (P : Nat) (v : Value) (l : List (Nat × Nat)) (hc : encN l ≤ 900000000) (W : World) (h : PK w0 W P v l) :
    Calls Try.prog 42 #[.pointer (some ⟨P, 0, none⟩)] W fun e W' => e = .returned (.string (encB l)) ∧ Below W.heap.size W W' :=
  sinkAll_any P v _ _ (by omega) W h.1

/-- The size, its least number and its further bits, as a search finds them. -/
def symT (z : Nat × Nat × Nat) (far : Bool) (n : Nat) : Nat → Nat × Nat × Nat
  | 0 => z
  | k + 1 => if (sizeS far (k : Int)).1 ≤ n then (k, sizeS far (k : Int)) else symT z far n k
theorem symT_eq (z : Nat × Nat × Nat) (far : Bool) (n : Nat) (h0 : (sizeS far 0).1 ≤ n) : ∀ k : Nat, (∀ j : Nat, j ≤ k → 0 < (sizeS far (j : Int)).1) → symT z far n (k + 1) = (symF far n (k + 1), sizeS far (symF far n (k + 1) : Nat)) := by
  intro k
  induction k with
  | zero =>
    intro hp
    have h0' : (sizeS far ((0 : Nat) : Int)).1 ≤ n := h0
    have e1 : symT z far n 1 = (0, sizeS far ((0 : Nat) : Int)) := if_pos h0'
    have e2 : symF far n 1 = 0 := if_pos ⟨hp 0 (Nat.le_refl _), h0'⟩
    rw [e1, e2]
  | succ k ih =>
    intro hp
    by_cases h : (sizeS far ((k + 1 : Nat) : Int)).1 ≤ n
    · have e1 : symT z far n (k + 1 + 1) = (k + 1, sizeS far ((k + 1 : Nat) : Int)) := if_pos h
      have e2 : symF far n (k + 1 + 1) = k + 1 := if_pos ⟨hp (k + 1) (Nat.le_refl _), h⟩
      rw [e1, e2]
    · have e1 : symT z far n (k + 1 + 1) = symT z far n (k + 1) := if_neg h
      have e2 : symF far n (k + 1 + 1) = symF far n (k + 1) := if_neg fun x => h x.2
      rw [e1, e2]
      exact ih fun j hj => hp j (by omega)
theorem symT_len (z : Nat × Nat × Nat) (t : Tok) (h : 3 ≤ t.l) : symT z false t.l.toNat 29 = (lsym t, sizeS false (lsym t : Nat)) :=
  symT_eq z false t.l.toNat (by show 3 ≤ _; omega) 28 (by decide)
theorem symT_dist (z : Nat × Nat × Nat) (t : Tok) (h : 1 ≤ t.d) : symT z true t.d.toNat 30 = (dsym t, sizeS true (dsym t : Nat)) :=
  symT_eq z true t.d.toNat (by show 1 ≤ _; omega) 29 (by decide)
theorem size_lim (far : Bool) (i : Nat) (h : i ≤ 29) : (sizeS far (i : Int)).1 ≤ 100000 ∧ (sizeS far (i : Int)).2 ≤ 14 := by
  have key : ∀ i : Nat, i < 30 → ((sizeS false (i : Int)).1 ≤ 100000 ∧ (sizeS false (i : Int)).2 ≤ 14) ∧ ((sizeS true (i : Int)).1 ≤ 100000 ∧ (sizeS true (i : Int)).2 ≤ 14) := by decide
  cases far
  · exact (key i (by omega)).1
  · exact (key i (by omega)).2
theorem symT_lim (z : Nat × Nat × Nat) (far : Bool) (n : Nat) (hz : z.1 ≤ 29 ∧ z.2.1 ≤ 100000 ∧ z.2.2 ≤ 14) : ∀ k, k ≤ 30 → (symT z far n k).1 ≤ 29 ∧ (symT z far n k).2.1 ≤ 100000 ∧ (symT z far n k).2.2 ≤ 14 := by
  intro k
  induction k with
  | zero => intro _; exact hz
  | succ k ih =>
    intro hk
    show (if _ then _ else _ : Nat × Nat × Nat).1 ≤ 29 ∧ (if _ then _ else _ : Nat × Nat × Nat).2.1 ≤ 100000 ∧ (if _ then _ else _ : Nat × Nat × Nat).2.2 ≤ 14
    split
    · exact ⟨by show k ≤ 29; omega, size_lim far k (by omega)⟩
    · exact ih (by omega)
theorem tokE_le (L : Nat → Nat) (c : Nat) (D : Nat → Nat) (d : Nat) (t : Tok) (hL : ∀ i, L i ≤ 15) (hD : ∀ i, D i ≤ 15) (h : (t.l = 0 ∧ t.d = 0) ∨ (t.l ≠ 0 ∧ t.b = 0 ∧ 3 ≤ t.l ∧ t.l ≤ 258 ∧ 1 ≤ t.d ∧ t.d ≤ 32768)) : encN (tokE L c D d t) ≤ 60 := by
  unfold tokE
  rcases h with ⟨h0, _⟩ | ⟨h0, _, h1⟩
  · rw [if_pos h0]
    have := hL t.b.toNat
    simp only [encN, symE]; omega
  · rw [if_neg h0]
    obtain ⟨a, b⟩ := tok_syms t h1
    have := hL (257 + lsym t)
    have := hD (dsym t)
    have := (size_lim false (lsym t) (by omega)).2
    have := (size_lim true (dsym t) (by omega)).2
    simp only [encN, symE]; omega
theorem toksE_le (L : Nat → Nat) (c : Nat) (D : Nat → Nat) (d : Nat) (S : List Tok) (hL : ∀ i, L i ≤ 15) (hD : ∀ i, D i ≤ 15) (h : ∀ t ∈ S, (t.l = 0 ∧ t.d = 0) ∨ (t.l ≠ 0 ∧ t.b = 0 ∧ 3 ≤ t.l ∧ t.l ≤ 258 ∧ 1 ≤ t.d ∧ t.d ≤ 32768)) : encN (toksE L c D d S) ≤ 60 * S.length := by
  induction S with
  | nil => exact Nat.zero_le _
  | cons t S ih =>
    rw [toksE_cons, encN_app, List.length_cons]
    have := tokE_le L c D d t hL hD (h t (List.mem_cons_self ..))
    have := ih fun x hx => h x (List.mem_cons_of_mem _ hx)
    omega
end Go.Proofs.Ytjnglahjngiofaa
