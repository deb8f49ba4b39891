/- DeflateSteps. Conditions: none. -/
import Derived.Test.YtjnglahjngiofaaStepR
import Derived.Test.YtjnglahjngiofaaStored
namespace Go.Proofs.Ytjnglahjngiofaa
open Go.RowKit
set_option maxRecDepth 100000

/-- Step i. -/
def sp (S : List Stp) (i : Nat) : Stp := S.getD i ⟨0, 0⟩
theorem pcells_at (S : List Stp) (i : Nat) (hi : i < S.length) : (pcells S)[i * 2]? = some (.int .i64 (sp S i).sym) ∧ (pcells S)[i * 2 + 1]? = some (.int .i64 (sp S i).more) := by
  induction S generalizing i with
  | nil => cases hi
  | cons x r ih =>
    have e : pcells (x :: r) = .int .i64 x.sym :: .int .i64 x.more :: pcells r := rfl
    rw [e]
    cases i with
    | zero => exact ⟨rfl, rfl⟩
    | succ i =>
      rw [List.length_cons] at hi
      have := ih i (by omega)
      rw [show (i + 1) * 2 = i * 2 + 1 + 1 by omega]
      simp only [List.getElem?_cons_succ]
      exact this
/-- Steps that are read. -/
def PRow (w : World) (a : Option Addr) (S : List Stp) : Prop :=
  S.length = 0 ∨ ∃ b, a = some ⟨b, 0, none⟩ ∧ b < w.heap.size ∧ ∀ i, i < S.length → w.cell? ⟨b, i * 2, none⟩ = some (.int .i64 (sp S i).sym) ∧ w.cell? ⟨b, i * 2 + 1, none⟩ = some (.int .i64 (sp S i).more)
theorem own_steps {e : TypeId} {w : World} {base : Nat} {v : Value} {S : List Stp} (h : OwnP e w base v S) : ∃ a cap, v = .slice a S.length cap ∧ PRow w a S := by
  have hlt := World.ownsRow.lt h
  rcases h.2 with ⟨rfl, h0⟩ | ⟨g, cap, cur, rfl, _⟩
  · exact ⟨none, 0, by rw [h0], .inl h0⟩
  · refine ⟨some ⟨g, 0, none⟩, cap, rfl, .inr ⟨g, rfl, (hlt g rfl).2, fun i hi => ?_⟩⟩
    rw [World.ownsRow.cellAt h (i * 2) (by omega), World.ownsRow.cellAt h (i * 2 + 1) (by omega)]
    exact pcells_at S i hi
theorem PRow.below {w w' : World} {a : Option Addr} {S : List Stp} (h : PRow w a S) (hb : Below w.heap.size w w') : PRow w' a S := by
  rcases h with h | ⟨b, h1, h2, h3⟩
  · exact .inl h
  · exact .inr ⟨b, h1, Nat.lt_of_lt_of_le h2 hb.size, fun i hi => ⟨(hb.cell (p := ⟨b, i * 2, none⟩) h2).trans (h3 i hi).1, (hb.cell (p := ⟨b, i * 2 + 1, none⟩) h2).trans (h3 i hi).2⟩⟩
theorem PRow.get {w : World} {a : Option Addr} {S : List Stp} (h : PRow w a S) (i : Nat) (hi : i < S.length) : ∃ b, a = some ⟨b, 0, none⟩ ∧ w.cell? ⟨b, i * 2, none⟩ = some (.int .i64 (sp S i).sym) ∧ w.cell? ⟨b, i * 2 + 1, none⟩ = some (.int .i64 (sp S i).more) := by
  rcases h with h | ⟨b, h1, _, h3⟩
  · omega
  · exact ⟨b, h1, h3 i hi⟩

def litL : List Int := [0, 0, 0, 5, 5, 5, 5, 5]
theorem lit_steps : stepsFrom litL 0 = [⟨17, 0⟩, ⟨5, 0⟩, ⟨16, 1⟩] := by
  have h0 : stepAt litL 0 = (⟨17, 0⟩, 3) := by unfold stepAt; rw [if_neg (by decide), if_pos (by decide)]; rfl
  have h1 : stepAt litL 3 = (⟨5, 0⟩, 1) := by unfold stepAt; rw [if_neg (by decide), if_neg (by decide), if_neg (by decide)]; rfl
  have h2 : stepAt litL 4 = (⟨16, 1⟩, 4) := by unfold stepAt; rw [if_neg (by decide), if_neg (by decide), if_pos (by decide)]; rfl
  have a0 : stepsFrom litL 0 = ⟨17, 0⟩ :: stepsFrom litL 3 := by rw [stepsFrom_in _ _ (by decide), h0]; rfl
  have a1 : stepsFrom litL 3 = ⟨5, 0⟩ :: stepsFrom litL 4 := by rw [stepsFrom_in _ _ (by decide), h1]; rfl
  have a2 : stepsFrom litL 4 = ⟨16, 1⟩ :: stepsFrom litL 8 := by rw [stepsFrom_in _ _ (by decide), h2]; rfl
  rw [a0, a1, a2, stepsFrom_out _ _ (by decide)]

theorem awake7_any (w : World) : Calls Try.prog 19 #[] w fun e w' => e = .returned (.bool true) ∧ Below w.heap.size w w' := by
  have hb0 := (Below.refl w.heap.size w).alloc (Nat.le_refl _) (.cells #[.int .i64 0, .int .i64 0, .int .i64 0, .int .i64 5, .int .i64 5, .int .i64 5, .int .i64 5, .int .i64 5] 3)
  have hrow : IRow (w.alloc (.cells #[.int .i64 0, .int .i64 0, .int .i64 0, .int .i64 5, .int .i64 5, .int .i64 5, .int .i64 5, .int .i64 5] 3)) (some ⟨w.heap.size, 0, none⟩) 8 (ln litL) := by
    refine .inr ⟨w.heap.size, 0, rfl, by simp, fun i hi => ?_⟩
    rw [Nat.zero_add, (Blk.new w 3 _).cell]
    match i, hi with
    | 0, _ => rfl
    | 1, _ => rfl
    | 2, _ => rfl
    | 3, _ => rfl
    | 4, _ => rfl
    | 5, _ => rfl
    | 6, _ => rfl
    | 7, _ => rfl
  have CS := Lib.hid (steps_any litL (by decide) (some ⟨w.heap.size, 0, none⟩) 8 _ hrow)
  have HB0 := Lib.hid hb0
  have CT := Lib.hid stored_ab
  clear hb0 hrow
  go_enter Try.func19, Try.ntmps19
  go_wp2_with fail
  refine CS.out.mono ?_
  rintro e w1 ⟨v, rfl, ho, hb1⟩
  rw [lit_steps] at ho
  obtain ⟨a, cap, rfl, hr1⟩ := own_steps ho
  have HR1 := Lib.hid hr1
  have HB1 := Lib.hid (HB0.out.trans (hb1.mono HB0.out.size))
  clear ho hb1 hr1 CS HB0
  go_wp2_with fail
  refine (CT.out _).mono ?_
  rintro e w2 ⟨rfl, hb2⟩
  obtain ⟨b, rfl, c0, c1⟩ := (HR1.out.below hb2).get 2 (by decide)
  have hB := bthen HB1.out hb2
  have HB := Lib.hid hB
  simp [sp] at c0 c1
  clear hb2 hB HR1
  go_wp2_with fail
  go_ret
  exact ⟨rfl, HB.out⟩

theorem clamp15_run (N : Int) : ∃ (M : Int) (k : Int), (∀ W, Sem.run Try.prog (Builtin.min_ #[3, 3] 3 #[.int .i64 N, .int .i64 15]) W = .ok (.int .i64 M) W) ∧ ∀ W, Sem.run Try.prog (Builtin.max_ #[3, 3] 3 #[.int .i64 0, .int .i64 M]) W = .ok (.int .i64 k) W :=
  ⟨if 15 < N then 15 else N, if (if 15 < N then 15 else N) > 0 then (if 15 < N then 15 else N) else 0, fun _ => rfl, fun _ => rfl⟩
/-- Numbers, as values. -/
def zvals (L : List Int) : List Value := L.map fun x => .int .i64 x
theorem zvals_append (L : List Int) (x : Int) : zvals (L ++ [x]) = zvals L ++ [.int .i64 x] := by simp [zvals]
theorem own_ints {w : World} {base : Nat} {v : Value} {L : List Int} (h : w.ownsRow base 3 1 v L.length (zvals L)) : ∃ a cap, v = .slice a L.length cap ∧ IRow w a L.length (ln L) := by
  have hlt := World.ownsRow.lt h
  rcases h.2 with ⟨rfl, h0⟩ | ⟨g, cap, cur, rfl, _⟩
  · exact ⟨none, 0, by rw [h0], .inl h0⟩
  · refine ⟨some ⟨g, 0, none⟩, cap, rfl, .inr ⟨g, 0, rfl, (hlt g rfl).2, fun i hi => ?_⟩⟩
    rw [Nat.zero_add, World.ownsRow.cellAt h i (by omega)]
    show (zvals L)[i]? = some (.int .i64 (ln L i))
    unfold zvals ln
    rw [List.getElem?_map, List.getD_eq_getElem?_getD, List.getElem?_eq_getElem hi]
    rfl
end Go.Proofs.Ytjnglahjngiofaa
