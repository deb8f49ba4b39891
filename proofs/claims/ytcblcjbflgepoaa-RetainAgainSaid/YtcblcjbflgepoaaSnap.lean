/- Rows of snapshots, policies: memory; Few, Check. Conditions: none. -/
import Derived.Test.YtcblcjbflgepoaaRetP
import Derived.Test.YtcblcjbflgepoaaSRow
import Derived.Laws.AppendOwnNone
namespace Go.Proofs.Ytcblcjbflgepoaa
open Go.RowKit
set_option maxRecDepth 100000

/-- The snapshots S lie behind a. -/
def SnRow (w : World) (a : Option Addr) (S : List Snp) : Prop :=
  S.length = 0 ∨ ∃ b off, a = some ⟨b, off, none⟩ ∧ b < w.heap.size ∧ ∀ i, i < S.length → w.cell? ⟨b, off + i * 3, none⟩ = some (.string (sn S i).id) ∧ w.cell? ⟨b, off + i * 3 + 1, none⟩ = some (.int .i64 (sn S i).time) ∧ w.cell? ⟨b, off + i * 3 + 2, none⟩ = some (.string (sn S i).tag)
section
variable {w w' : World} {a : Option Addr} {S : List Snp}
theorem SnRow.get (h : SnRow w a S) (i : Nat) (hi : i < S.length) : ∃ b off, a = some ⟨b, off, none⟩ ∧ b < w.heap.size ∧ w.cell? ⟨b, off + i * 3, none⟩ = some (.string (sn S i).id) ∧ w.cell? ⟨b, off + i * 3 + 1, none⟩ = some (.int .i64 (sn S i).time) ∧ w.cell? ⟨b, off + i * 3 + 2, none⟩ = some (.string (sn S i).tag) := by
  rcases h with h | ⟨b, off, h1, h2, h3⟩
  · omega
  · exact ⟨b, off, h1, h2, h3 i hi⟩
theorem SnRow.below {B : Nat} (h : SnRow w a S) (hb : Below B w w') (hB : w.heap.size ≤ B) : SnRow w' a S := by
  rcases h with h | ⟨b, off, h1, h2, h3⟩
  · exact .inl h
  · refine .inr ⟨b, off, h1, Nat.lt_of_lt_of_le h2 hb.size, fun i hi => ?_⟩
    obtain ⟨c0, c1, c2⟩ := h3 i hi
    have e : b < B := by omega
    exact ⟨(hb.cell (p := ⟨b, off + i * 3, none⟩) e).trans c0, (hb.cell (p := ⟨b, off + i * 3 + 1, none⟩) e).trans c1, (hb.cell (p := ⟨b, off + i * 3 + 2, none⟩) e).trans c2⟩
theorem SnRow.take (h : SnRow w a S) (k : Nat) : SnRow w a (S.take k) := by
  rcases h with h | ⟨b, off, h1, h2, h3⟩
  · exact .inl (by rw [List.length_take]; omega)
  · refine .inr ⟨b, off, h1, h2, fun i hi => ?_⟩
    rw [List.length_take] at hi
    have e : sn (S.take k) i = sn S i := by rw [sn_get (by rw [List.length_take]; omega), sn_get (by omega), List.getElem_take]
    rw [e]
    exact h3 i (by omega)
theorem SnRow.dropped (h : SnRow w a S) (k : Nat) (hk : k ≤ S.length) : S.length - k = 0 ∨ ∃ b off, a = some ⟨b, off, none⟩ ∧ SnRow w (some ⟨b, off + k * 3, none⟩) (S.drop k) := by
  rcases h with h | ⟨b, off, h1, h2, h3⟩
  · exact .inl (by omega)
  · refine .inr ⟨b, off, h1, .inr ⟨b, off + k * 3, rfl, h2, fun i hi => ?_⟩⟩
    rw [List.length_drop] at hi
    rw [sn_drop]
    have := h3 (k + i) (by omega)
    rw [show off + (k + i) * 3 = off + k * 3 + i * 3 by omega] at this
    exact this
end
/-- Their cells. -/
def scells (S : List Snp) : List Value := S.flatMap fun x => [.string x.id, .int .i64 x.time, .string x.tag]
theorem scells_length (S : List Snp) : (scells S).length = S.length * 3 := by
  induction S with
  | nil => rfl
  | cons x r ih =>
    have e : scells (x :: r) = .string x.id :: .int .i64 x.time :: .string x.tag :: scells r := rfl
    rw [e]
    simp only [List.length_cons, ih]
    omega
theorem scells_append (S T : List Snp) : scells (S ++ T) = scells S ++ scells T := by simp [scells]
theorem scells_one (S : List Snp) : ∀ u ∈ scells S, u.oneCell' = true := by
  intro u hu
  simp only [scells, List.mem_flatMap, List.mem_cons, List.not_mem_nil, or_false] at hu
  obtain ⟨x, _, h | h | h⟩ := hu <;> subst h <;> rfl
theorem scells_at (S : List Snp) (i : Nat) (hi : i < S.length) : (scells S)[i * 3]? = some (.string (sn S i).id) ∧ (scells S)[i * 3 + 1]? = some (.int .i64 (sn S i).time) ∧ (scells S)[i * 3 + 2]? = some (.string (sn S i).tag) := by
  induction S generalizing i with
  | nil => cases hi
  | cons x r ih =>
    have e : scells (x :: r) = .string x.id :: .int .i64 x.time :: .string x.tag :: scells r := rfl
    rw [e]
    cases i with
    | zero => exact ⟨rfl, rfl, rfl⟩
    | succ i =>
      rw [List.length_cons] at hi
      have := ih i (by omega)
      rw [show (i + 1) * 3 = i * 3 + 1 + 1 + 1 by omega, show i * 3 + 1 + 1 + 1 + 1 = i * 3 + 1 + 1 + 1 + 1 from rfl]
      simp only [List.getElem?_cons_succ]
      exact this
theorem info_snap : (Try.prog.info? 49).map (fun i => (i.zero, i.size, i.bytes)) = some (some (.agg #[.string ⟨#[]⟩, .int .i64 0, .string ⟨#[]⟩]), 3, 40) := by kernel_rfl
/-- The slice v owns the snapshots S. -/
def OwnN (w : World) (base : Nat) (v : Value) (S : List Snp) : Prop := w.ownsRow base 49 3 v S.length (scells S)
theorem OwnN.view {w : World} {base : Nat} {v : Value} {S : List Snp} (h : OwnN w base v S) : ∃ a cap, v = .slice a S.length cap ∧ S.length ≤ cap ∧ cap ≤ 9223372036854775807 ∧ SnRow w a S ∧ (∀ b off sp, a = some ⟨b, off, sp⟩ → base ≤ b ∧ b < w.heap.size) := by
  have hlt := World.ownsRow.lt h
  have hc := fun g hg => World.ownsRow.cells h (g := g) hg
  rcases h.2 with ⟨rfl, hl⟩ | ⟨g, cap, cur, rfl, h1, h2, h3, h4, h5⟩
  · rw [hl]
    exact ⟨_, _, rfl, Nat.le_refl _, by decide, .inl hl, fun b off sp e => by cases e⟩
  · refine ⟨_, _, rfl, by first | exact h3 | omega, (by have := h4; unfold maxLen at this; omega), .inr ⟨g, 0, rfl, (hlt g rfl).2, fun i hi => ?_⟩, fun b off sp e => by injection e with e; injection e with e1; subst e1; exact hlt g rfl⟩
    obtain ⟨c0, c1, c2⟩ := scells_at S i hi
    rw [Nat.zero_add]
    have e0 : ∀ j, (⟨g, 0, none⟩ : Addr).add j = ⟨g, j, none⟩ := fun j => by unfold Addr.add; split <;> simp_all
    refine ⟨?_, ?_, ?_⟩
    · have := hc g rfl (i * 3) _ c0; rwa [e0] at this
    · have := hc g rfl (i * 3 + 1) _ c1; rwa [e0] at this
    · have := hc g rfl (i * 3 + 2) _ c2; rwa [e0] at this

/-- append(own, l...) where l is a slice of snapshots that came in. -/
theorem wpList_append_snrow {ops : Array Oper} {rest : List Oper} {o : Oper} {a : Act} {Q : Exit → Act → World → Prop} {w : World} (hgd : o.guard = none) (s x : Operand)
    (ho : o.op = .call { callee := .builtin .append, args := #[s, x], argTypes := #[37, 37] })
    (base : Nat) (v : Value) (S0 : List Snp) (hown : OwnN w base v S0) (hs : a.eval s = v)
    (p : Option Addr) (k c : Nat) (S1 : List Snp) (hk : S1.length = k) (hx : a.eval x = .slice p k c) (hr : SnRow w p S1) (hnil : p = none → k = 0 ∧ c = 0)
    (h63 : S0.length + k ≤ 1000000000) (hbase : base ≤ w.heap.size)
    (h : ∀ v' w', OwnN w' base v' (S0 ++ S1) → w.grownBy w' v.ownBlock → (v = .slice none 0 0 ∨ v' ≠ .slice none 0 0) → wpList Try.prog ops Q rest (a.put o.dst v') w') :
    wpList Try.prog ops Q (o :: rest) a w := by
  obtain ⟨i0, hi, hz0, hz1, hz2⟩ := info_parts info_snap
  have hi' : Try.prog.info? 49 = some i0 := hi
  subst hk
  rcases p with _ | ⟨b, off, sp⟩
  · obtain ⟨hl, rfl⟩ := hnil rfl
    have hn : S1 = [] := List.length_eq_zero_iff.1 hl
    subst hn
    refine wpList_append_own_none hgd s x 37 ho base 49 i0 3 Try.underlying37 hi' v S0.length _ hs hown hx (h v w ?_ ?_ ?_)
    · simpa using hown
    · exact World.grownBy.refl w _
    · by_cases e : v = .slice none 0 0
      · exact .inl e
      · exact .inr e
  · refine wpList_append_own w hgd s x 37 ho base 49 i0 (.agg #[.string ⟨#[]⟩, .int .i64 0, .string ⟨#[]⟩]) 3 40 Try.underlying37 hi' hz0 hz1 hz2 rfl (by decide) v S0.length _ hs hown ⟨b, off, sp⟩ S1.length c (scells S1) hx (by rw [scells_length]) ?_ (scells_one S1) (by unfold maxLen; omega) (by omega) hbase ?_
    · intro j u hj
      have hjk : j < S1.length * 3 := by
        have := (List.getElem?_eq_some_iff.1 hj).1
        rwa [scells_length] at this
      have hq : j / 3 < S1.length := by omega
      obtain ⟨b', off', he, _, d0, d1, d2⟩ := hr.get (j / 3) hq
      injection he with he
      injection he with e1 e2 e3
      subst e1 e2 e3
      obtain ⟨c0, c1, c2⟩ := scells_at S1 (j / 3) hq
      have e : (⟨b, off, none⟩ : Addr).add j = ⟨b, off + j, none⟩ := by unfold Addr.add; split <;> simp_all
      rw [e]
      have h3 : j = j / 3 * 3 ∨ j = j / 3 * 3 + 1 ∨ j = j / 3 * 3 + 2 := by omega
      rcases h3 with h3 | h3 | h3
      · rw [h3, c0] at hj
        injection hj with hj
        rw [h3, ← hj]; exact d0
      · rw [h3, c1] at hj
        injection hj with hj
        rw [h3, ← hj]; exact d1
      · rw [h3, c2] at hj
        injection hj with hj
        rw [h3, ← hj]; exact d2
    · intro v' w' h1 h2 h3
      refine h v' w' ?_ h2 ?_
      · unfold OwnN
        rw [List.length_append, scells_append]
        exact h1
      · by_cases e : v = .slice none 0 0
        · exact .inl e
        · exact .inr fun e2 => e (h3.1 e2).1

/-- What Few hands back. -/
theorem few21_nn (a : Option Addr) (len cap : Nat) (S : List Snp) (hS : S.length = len) (hl : len ≤ cap) (hc : cap ≤ 9223372036854775807) (hnil : a = none → len = 0 ∧ cap = 0) (w : World) (hr : SnRow w a S) :
    Calls Try.prog 21 #[.slice a len cap] w fun e w' => ∃ v, e = .returned v ∧ OwnN w' w.heap.size v (S.take 25) ∧ Below w.heap.size w w' ∧ v ≠ .slice none 0 0 := by
  have ho0 := World.ownsRow_made (base := w.heap.size) (e := 49) (size := 3) w #[] 0 (Nat.le_refl _) (Nat.zero_le _) rfl
  have hb0 := (Below.refl w.heap.size w).alloc (Nat.le_refl _) (.cells #[] 49)
  have hO0 : OwnN (w.alloc (.cells #[] 49)) w.heap.size (.slice (some ⟨w.heap.size, 0, none⟩) 0 0) [] := ho0
  have hbs : w.heap.size ≤ (w.alloc (.cells #[] 49)).heap.size := by simp
  by_cases h25 : 25 < len
  · have hr2 := (hr.below hb0 (Nat.le_refl _)).take 25
    have hl2 : (S.take 25).length = 25 := by rw [List.length_take]; omega
    go_enter Try.func21, Try.ntmps21
    go_wp2_with (at_builtin; go_must (refine wpList_append_snrow rfl _ _ rfl w.heap.size _ [] hO0 rfl a 25 cap (S.take 25) hl2 rfl hr2 ?_ ?_ hbs ?_; (intro e; have := hnil e; omega); simp; intro v' w1 hown1 hg1 hnn))
    go_ret
    exact ⟨_, rfl, hown1, hb0.trans (below_grown hO0 hg1 hbs), hnn.resolve_left (by simp)⟩
  · have hr2 := hr.below hb0 (Nat.le_refl _)
    have hl2 : S.take 25 = S := List.take_of_length_le (by omega)
    rw [hl2]
    go_enter Try.func21, Try.ntmps21
    go_wp2_with (at_builtin; go_must (refine wpList_append_snrow rfl _ _ rfl w.heap.size _ [] hO0 rfl a len cap S hS rfl hr2 hnil ?_ hbs ?_; (simp; omega); intro v' w1 hown1 hg1 hnn))
    go_ret
    exact ⟨_, rfl, hown1, hb0.trans (below_grown hO0 hg1 hbs), hnn.resolve_left (by simp)⟩
theorem few21_any (a : Option Addr) (len cap : Nat) (S : List Snp) (hS : S.length = len) (hl : len ≤ cap) (hc : cap ≤ 9223372036854775807) (hnil : a = none → len = 0 ∧ cap = 0) (w : World) (hr : SnRow w a S) :
    Calls Try.prog 21 #[.slice a len cap] w fun e w' => ∃ v, e = .returned v ∧ OwnN w' w.heap.size v (S.take 25) ∧ Below w.heap.size w w' :=
  (few21_nn a len cap S hS hl hc hnil w hr).mono fun _ _ ⟨v, h1, h2, h3, _⟩ => ⟨v, h1, h2, h3⟩
end Go.Proofs.Ytcblcjbflgepoaa
