/- BitioPuts: what a round holds; append of a row of bits. Conditions: none. -/
import Derived.Test.YtginjnpboggnbaaWhole
import Derived.Test.YtginjnpboggnbaaAwake3
import Derived.Test.YtginjnpboggnbaaFew
import Derived.Test.YtginjnpboggnbaaAct
namespace Go.Proofs.Ytginjnpboggnbaa
open Go.RowKit
set_option maxRecDepth 100000

theorem bvals_app (n k V U : Nat) (hV : V < 2 ^ n) : bvals n V ++ bvals k U = bvals (n + k) (V + U * 2 ^ n) := by
  apply List.ext_getElem?
  intro i
  by_cases h : i < n
  · rw [List.getElem?_append_left (by rw [bvals_length]; exact h), bvals_at _ _ _ h, bvals_at _ _ _ (by omega)]
    unfold bval
    rw [joined_low V U n i hV h]
  · rw [List.getElem?_append_right (by rw [bvals_length]; omega), bvals_length]
    by_cases h2 : i - n < k
    · rw [bvals_at _ _ _ h2, bvals_at _ _ _ (by omega)]
      unfold bval
      have := joined_high V U n (i - n) hV
      rw [show n + (i - n) = i by omega] at this
      rw [this]
    · rw [List.getElem?_eq_none (by rw [bvals_length]; omega), List.getElem?_eq_none (by rw [bvals_length]; omega)]

/-- append(own row of bits, row of bits), in a region that draws its order. -/
theorem step_append_bits {ops : Array Oper} {o : Oper} {a : Act} {K : Act → World → Prop} {Q : Exit → Act → World → Prop} {E : Prop} (w : World) (hgd : o.guard = none) (s x : Operand)
    (ho : o.op = .call { callee := .builtin .append, args := #[s, x], argTypes := #[38, 38] })
    (base : Nat) (v : Value) (n V : Nat) (hV : V < 2 ^ n) (hown : OwnV w base n V v) (hs : a.eval s = v)
    (b off k c U : Nat) (hx : a.eval x = .slice (some ⟨b, off, none⟩) k c) (hr : BRow w (some ⟨b, off, none⟩) k U)
    (h63 : n + k ≤ 1000000000) (hbase : base ≤ w.heap.size)
    (h : ∀ v' w', OwnV w' base (n + k) (V + U * 2 ^ n) v' → Below base w w' → K (a.put o.dst v') w') :
    if Region.wanted o (yielded ops a.tmps) = true then Oper.wp Try.prog o a w K Q else E := by
  have hw : Region.wanted o (yielded ops a.tmps) = true := by simp [Region.wanted, hgd]
  rw [if_pos hw]
  obtain ⟨i0, hi, hz0, hz1, hz2⟩ := info_parts info_bool
  have hi' : Try.prog.info? 4 = some i0 := hi
  obtain ⟨g, cap, rfl, hown⟩ := hown
  refine wp_append_own w s x 38 ho base 4 i0 (.bool false) 1 1 Try.underlying38 hi' hz0 hz1 hz2 rfl (by decide) _ n _ hs hown ⟨b, off, none⟩ k c (bvals k U) hx (by rw [bvals_length, Nat.mul_one]) ?_ (bvals_one _ _) (by unfold maxLen; omega) (by omega) hbase ?_
  · intro j u hj
    have hjk : j < k := by
      have := (List.getElem?_eq_some_iff.1 hj).1
      rwa [bvals_length] at this
    rw [bvals_at k U j hjk] at hj
    obtain ⟨b', off', he, _, hc⟩ := hr.get j hjk
    injection he with he
    injection he with e1 e2 e3
    subst e1 e2
    have e : (⟨b, off, none⟩ : Addr).add j = ⟨b, off + j, none⟩ := by unfold Addr.add; split <;> simp_all
    rw [e, hc]
    exact hj
  · intro v' w' h1 h2 h3
    rw [bvals_app n k V U hV] at h1
    refine h v' w' (own_v_of h1 fun e => ?_) (below_grown hown h2 hbase)
    have := (h3.1 e).1
    simp at this

/-- What a round holds. -/
def PK (w W : World) (P : Nat) (v : Value) (V c g : Nat) : Prop := SinkAt W P v V c ∧ BRow W (some ⟨g, 0, none⟩) c V ∧ g < W.heap.size ∧ g ≠ P ∧ v.ownBlock ≠ some g ∧ Below w.heap.size w W
theorem Blk.chg {w w' : World} {P A t : Nat} {v : Value} {cs : Array Value} (h : Blk w A t cs) (hc : Chg w w' P v) (hA : A ≠ P) (hv : v.ownBlock ≠ some A) : Blk w' A t cs := (hc.2.2 A h.lt hA hv).trans h
theorem BRow.chg {w w' : World} {P b off n V : Nat} {v : Value} (h : BRow w (some ⟨b, off, none⟩) n V) (hc : Chg w w' P v) (hA : b ≠ P) (hv : v.ownBlock ≠ some b) : BRow w' (some ⟨b, off, none⟩) n V := by
  rcases h with h | ⟨b', off', h1, h2, h3⟩
  · exact .inl h
  · injection h1 with h1
    injection h1 with e1 e2
    subst e1 e2
    have hb := hc.2.2 b h2 hA hv
    have e : ∀ o, w'.cell? ⟨b, o, none⟩ = w.cell? ⟨b, o, none⟩ := fun o => by unfold World.cell?; simp only [hb]
    exact .inr ⟨b, off, rfl, Nat.lt_of_lt_of_le h2 hc.2.1, fun i hi => (e _).trans (h3 i hi)⟩
/-- Behind a call on the sink: the row is still the old one. -/
def PH (w W : World) (P : Nat) (v : Value) (V c g U d : Nat) : Prop := SinkAt W P v V c ∧ BRow W (some ⟨g, 0, none⟩) d U ∧ Below w.heap.size w W
theorem PK.sink {w W W' : World} {P V c g V' c' : Nat} {v v' : Value} (h : PK w W P v V c g) (hS : SinkAt W' P v' V' c') (hc : Chg W W' P v) (hP : w.heap.size ≤ P) : PH w W' P v' V' c' g V c := by
  obtain ⟨h1, h2, h3, h4, h5, h6⟩ := h
  exact ⟨hS, h2.chg hc h4 h5, hc.below h6 hP (fun k e => by have := h1.row k e; omega)⟩
theorem PH.row {w W W' : World} {P V c g U d g' : Nat} {v : Value} (h : PH w W P v V c g U d) (hb : Below W.heap.size W W') (hr : BRow W' (some ⟨g', 0, none⟩) c V) (hg : W.heap.size ≤ g') (hg2 : g' < W'.heap.size) : PK w W' P v V c g' := by
  obtain ⟨h1, h2, h3⟩ := h
  refine ⟨h1.below2 hb, hr, hg2, by have := h1.lt; omega, fun e => ?_, h3.trans (hb.mono h3.size)⟩
  have := (World.ownsRow.lt h1.2.1 g' e).2
  omega
theorem PK.below {w W W' : World} {P V c g : Nat} {v : Value} (h : PK w W P v V c g) (hb : Below W.heap.size W W') : PK w W' P v V c g := by
  obtain ⟨h1, h2, h3, h4, h5, h6⟩ := h
  exact ⟨h1.below2 hb, h2.below hb (Nat.le_refl _), Nat.lt_of_lt_of_le h3 hb.size, h4, h5, h6.trans (hb.mono h6.size)⟩
theorem PK.own {w W : World} {P V c g : Nat} {v : Value} (h : PK w W P v V c g) : v.ownBlock ≠ some W.heap.size := fun e => by
  have := (World.ownsRow.lt h.1.2.1 _ e).2
  omega
end Go.Proofs.Ytginjnpboggnbaa
