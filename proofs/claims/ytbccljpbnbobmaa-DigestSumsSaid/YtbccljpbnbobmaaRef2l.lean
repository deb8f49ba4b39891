/- Rows of the document's words that are put together, and stored into. Conditions: none. -/
import Derived.Test.YtbccljpbnbobmaaRef2i
import Derived.Test.YtbccljpbnbobmaaRef2k
import Derived.Test.YtbccljpbnbobmaaRef2f
import Derived.Deep.MidRow
import Derived.Laws.OwnMore
namespace Go.Proofs.Ytbccljpbnbobmaa
open Go.RowKit
set_option maxRecDepth 100000

theorem info_wd : (Try.prog.info? 69).map (fun i => (i.zero, i.size, i.bytes)) = some (some (.agg (fcells 32 (tval fun _ => false))), 32, 32) := by kernel_rfl
theorem wcl_append (A B : List Nat) : wcl (A ++ B) = wcl A ++ wcl B := by unfold wcl; rw [List.flatMap_append]
theorem wcl_one (x : Nat) : wcl [x] = wl x := by show wl x ++ [] = _; rw [List.append_nil]
theorem wcl_cell (L : List Nat) : ∀ v ∈ wcl L, v.oneCell' = true := by
  intro v hv
  unfold wcl at hv
  rw [List.mem_flatMap] at hv
  obtain ⟨x, _, hv⟩ := hv
  obtain ⟨i, _, rfl⟩ := List.mem_map.1 hv
  rfl
/-- A row of words that the call itself puts together. -/
def OwnWd (w : World) (base : Nat) (v : Value) (L : List Nat) : Prop := w.ownsRow base 69 32 v L.length (wcl L)
theorem OwnWd.empty (w : World) (base : Nat) (hb : base ≤ w.heap.size) : OwnWd (w.alloc (.cells #[] 69)) base (.slice (some ⟨w.heap.size, 0, none⟩) 0 0) [] :=
  ⟨rfl, .inr ⟨w.heap.size, 0, #[], rfl, hb, Blk.new w _ _, Nat.le_refl _, Nat.zero_le _, rfl, rfl⟩⟩
theorem OwnWd.below {w w' : World} {base B : Nat} {v : Value} {L : List Nat} (h : OwnWd w base v L) (hb : Below B w w') (hB : w.heap.size ≤ B) : OwnWd w' base v L := by
  have hlt := World.ownsRow.lt h
  refine ⟨h.1, ?_⟩
  rcases h.2 with h2 | ⟨g, cap, cur, rfl, h3, h4, h5⟩
  · exact .inl h2
  · exact .inr ⟨g, cap, cur, rfl, h3, (hb.block g (Nat.lt_of_lt_of_le (hlt g rfl).2 hB)).trans h4, h5⟩
theorem OwnWd.drew {w : World} {base : Nat} {v : Value} {L : List Nat} (h : OwnWd w base v L) : OwnWd w.drew base v L := World.ownsRow.drew h
theorem OwnWd.al {w : World} {base : Nat} {v : Value} {L : List Nat} (h : OwnWd w base v L) (o : Obj) : OwnWd (w.alloc o) base v L := World.ownsRow.alloc h o
theorem OwnWd.view {w : World} {base : Nat} {v : Value} {L : List Nat} (h : OwnWd w base v L) : ∃ a cap, v = .slice a L.length cap ∧ WRow w a L.length (fun i => L.getD i 0) := by
  have hlt := World.ownsRow.lt h
  have hc := fun g hg => World.ownsRow.cells h (g := g) hg
  rcases h.2 with ⟨rfl, h0⟩ | ⟨G, cap, cur, rfl, _⟩
  · exact ⟨none, 0, by rw [h0], .inl h0⟩
  · refine ⟨_, _, rfl, .inr ⟨G, 0, rfl, (hlt G rfl).2, fun j hj q u hq => ?_⟩⟩
    have e0 : ∀ j, (⟨G, 0, none⟩ : Addr).add j = ⟨G, j, none⟩ := fun j => by unfold Addr.add; split <;> simp_all
    have hq2 : q < 32 := by
      rcases Nat.lt_or_ge q 32 with h | h
      · exact h
      · rw [List.getElem?_eq_none (by simp; omega)] at hq; cases hq
    have := hc G rfl (j * 32 + q) _ (wcl_at L j q hj hq2)
    rw [e0] at this
    rw [Nat.zero_add, this]
    rw [List.getElem?_map, List.getElem?_range hq2] at hq
    exact hq
theorem wpList_build_words {ops : Array Oper} {rest : List Oper} {o : Oper} {a : Act} {w : World} {Q : Exit → Act → World → Prop} (hgd : o.guard = none) (len : Nat) (parts : Array (Nat × Operand)) (ho : o.op = .buildSlice 67 len parts)
    (L : List Nat) (hlen : L.length = len) (hpos : 0 < len) (hsm : len ≤ 100) (hv : (parts.toList.map fun p => (p.1, a.eval p.2)) = ((L.map fun x => Value.agg (wl x).toArray).zipIdx 0).map fun x => (x.2, x.1))
    (h : wpList Try.prog ops Q rest (a.put o.dst (.slice (some ⟨w.heap.size, 0, none⟩) len len)) (w.alloc (.cells (wcl L).toArray 69))) : wpList Try.prog ops Q (o :: rest) a w :=
  wpList_plain hgd fun _ hK => wp_build_words len parts ho L hlen hpos hsm hv (hK _ _ h)
theorem wp_append_W {o : Oper} {a : Act} {K : Act → World → Prop} {Q : Exit → Act → World → Prop} (w : World) (s x : Operand)
    (ho : o.op = .call { callee := .builtin .append, args := #[s, x], argTypes := #[67, 67] })
    (base : Nat) (v : Value) (L : List Nat) (u : Nat) (hown : OwnWd w base v L) (hs : a.eval s = v)
    {sz : Nat} (hx : a.eval x = .slice (some ⟨sz, 0, none⟩) 1 1) (hsize : sz = w.heap.size) (hm : L.length ≤ 1000) (hbase : base ≤ w.heap.size)
    (h : ∀ v' w', OwnWd w' base v' (L ++ [u]) → w.grownBy w' v.ownBlock → K (a.put o.dst v') w') :
    o.wp Try.prog a (w.alloc (.cells (wcl [u]).toArray 69)) K Q :=
  wp_append_lit w s x ho Try.underlying67 info_wd (by show (fcells 32 _).size = 32; rw [fcells_size]) (by decide) base v L.length (wcl L) (wcl [u]) 1 hown (by rw [wcl_len]; rfl) (wcl_cell [u]) hs hx hsize (by unfold maxLen; omega) (by omega) hbase rfl
    fun v' w' h2 h3 => h v' w' (by unfold OwnWd; rw [wcl_append, List.length_append]; exact h2) h3
theorem wpList_append_W {ops : Array Oper} {rest : List Oper} {o : Oper} {a : Act} {Q : Exit → Act → World → Prop} (w : World) (hgd : o.guard = none) (s x : Operand)
    (ho : o.op = .call { callee := .builtin .append, args := #[s, x], argTypes := #[67, 67] })
    (base : Nat) (v : Value) (L : List Nat) (u : Nat) (hown : OwnWd w base v L) (hs : a.eval s = v)
    {sz : Nat} (hx : a.eval x = .slice (some ⟨sz, 0, none⟩) 1 1) (hsize : sz = w.heap.size) (hm : L.length ≤ 1000) (hbase : base ≤ w.heap.size)
    (h : ∀ v' w', OwnWd w' base v' (L ++ [u]) → Below base w w' → wpList Try.prog ops Q rest (a.put o.dst v') w') :
    wpList Try.prog ops Q (o :: rest) a (w.alloc (.cells (wcl [u]).toArray 69)) :=
  wpList_plain hgd fun _ hK => wp_append_W w s x ho base v L u hown hs hx hsize hm hbase fun v' w' h2 h3 => hK _ _ (h v' w' h2 (below_grown hown h3 hbase))
theorem of_wl (x : Nat) (hx : x < 18446744073709551616) (w : World) : Calls Try.prog 47 #[.int .u64 (x : Int)] w fun e w' => e = .returned (.agg (wl x).toArray) ∧ Below w.heap.size w w' := of_any x hx w
theorem tab_8 : tabL.take 8 = (List.range 8).map shaK := by rw [← shaK_tab]; decide +kernel
theorem tab_64 (i : Nat) (hi : i < 64) : (tabL.drop 8).getD i 0 = shaK (8 + i) := by
  rw [shaK_at _ (by omega), List.getD_eq_getElem?_getD, List.getElem?_drop, List.getD_eq_getElem?_getD]
theorem Onl.setCells {H : Nat} {w w1 : World} (h : Onl H w w1) (o : Nat) (vs : List Value) : Onl H w (w1.setCells H o vs) := by
  induction vs generalizing o w1 with
  | nil => exact h
  | cons v r ih => exact ih (h.set_ o v) (o + 1)
theorem OwnT.cap_le {w : World} {base n cap : Nat} {a : Option Addr} {L : List Bool} (h : OwnT w base (.slice a n cap) L) : L.length ≤ cap ∧ cap ≤ 9223372036854775807 := by
  rcases h.2 with ⟨e, h0⟩ | ⟨g, cap', cur, e, _, _, h1, h2, _⟩
  · injection e with e1 e2 e3
    subst e3
    omega
  · injection e with e1 e2 e3
    subst e3
    unfold maxLen at h2
    exact ⟨h1, h2⟩
theorem there_bel {w W : World} {b o n : Nat} (h : w.there b o n) (hb : Below w.heap.size w W) (hlt : b < w.heap.size) : W.there b o n := fun j hj => by
  obtain ⟨h1, h2⟩ := h j hj
  have e := hb.block b hlt
  refine ⟨?_, ?_⟩
  · rw [(hb.cell (p := ⟨b, o + j, none⟩) hlt)]; exact h1
  · unfold World.frozen? at h2 ⊢
    simp only [e]
    exact h2
/-- Eight words in memory that may be stored into. -/
def HWd (w : World) (g : Nat) (L : List Nat) : Prop := (∀ j, j < 8 → w.rangeAt g (j * 32) (wl (L.getD j 0))) ∧ w.there g 0 256 ∧ g < w.heap.size
theorem OwnWd.hwd {w : World} {base : Nat} {v : Value} {L : List Nat} (h : OwnWd w base v L) (hl : L.length = 8) : ∃ g cap, v = .slice (some ⟨g, 0, none⟩) 8 cap ∧ base ≤ g ∧ HWd w g L := by
  obtain ⟨g, cap, rfl, hb, _⟩ := World.ownsRow.form h (by omega)
  obtain ⟨a, c, e, hr⟩ := h.view
  injection e with e1 e2 e3
  subst e1
  have hcells : ∀ j, j < 256 → (w.cell? ⟨g, 0 + j, none⟩).isSome = true ∧ w.frozen? ⟨g, 0 + j, none⟩ = false := fun j hj => by
    have hb2 := hr.bit (j / 32) (j % 32) (by omega) (by omega)
    rw [show 0 + j / 32 * 32 + j % 32 = 0 + j by omega] at hb2
    refine ⟨by rw [hb2]; rfl, ?_⟩
    rw [Nat.zero_add]
    exact World.ownsRow.frozenAt h j
  refine ⟨g, cap, by rw [hl], hb, fun j hj => ?_, hcells, (World.ownsRow.lt h g rfl).2⟩
  have := hr.range j (by omega)
  rw [Nat.zero_add] at this
  exact this
theorem Onl.range {H g o : Nat} {w w' : World} {cs : List Value} (h : Onl H w w') (hg : g ≠ H) (hr : w.rangeAt g o cs) : w'.rangeAt g o cs := fun j v hv => by
  have h1 := hr j v hv
  have hlt := World.block_lt_of_cell? w _ h1
  have := h.2.2.2.2 g hlt hg
  unfold World.cell? at h1 ⊢
  simp only [this]
  exact h1
theorem Onl.cell {H g o : Nat} {w w' : World} {v : Value} (h : Onl H w w') (hg : g ≠ H) (h1 : w.cell? ⟨g, o, none⟩ = some v) : w'.cell? ⟨g, o, none⟩ = some v := by
  have hlt := World.block_lt_of_cell? w _ h1
  have := h.2.2.2.2 g hlt hg
  unfold World.cell? at h1 ⊢
  simp only [this]
  exact h1
theorem OwnWd.onl {H base : Nat} {w w' : World} {v : Value} {L : List Nat} (h : OwnWd w base v L) (ho : Onl H w w') (hne : v.ownBlock ≠ some H) : OwnWd w' base v L := by
  have hlt := World.ownsRow.lt h
  refine ⟨h.1, ?_⟩
  rcases h.2 with h2 | ⟨g, cap, cur, rfl, h3, h4, h5⟩
  · exact .inl h2
  · exact .inr ⟨g, cap, cur, rfl, h3, (ho.2.2.2.2 g (hlt g rfl).2 (fun e => hne (by rw [e]; rfl))).trans h4, h5⟩
theorem TRw.onl {H b o : Nat} {w w' : World} {L : List Bool} (h : TRw w (some ⟨b, o, none⟩) L) (ho : Onl H w w') (hne : b ≠ H) : TRw w' (some ⟨b, o, none⟩) L := fun k hk => by
  obtain ⟨b', o', e, hb, hc⟩ := h k hk
  simp only [Option.some.injEq, Addr.mk.injEq] at e
  obtain ⟨rfl, rfl, _⟩ := e
  exact ⟨_, _, rfl, Nat.lt_of_lt_of_le hb ho.2.2.2.1, ho.cell hne hc⟩
theorem TRw.at {b o : Nat} {w : World} {L : List Bool} (h : TRw w (some ⟨b, o, none⟩) L) (k : Nat) (v : Bool) (hv : L[k]? = some v) : w.cell? ⟨b, o + k, none⟩ = some (.bool v) := by
  obtain ⟨hk, e⟩ := List.getElem?_eq_some_iff.1 hv
  obtain ⟨b', o', e2, _, hc⟩ := h k hk
  simp only [Option.some.injEq, Addr.mk.injEq] at e2
  obtain ⟨rfl, rfl, _⟩ := e2
  rw [hc, e]
/-- The words of a row stand in a block; all below a bound is as it was. -/
def SWd (g : Nat) (L : List Nat) (base : Nat) (w0 W : World) : Prop := (∀ j, j < L.length → W.rangeAt g (j * 32) (wl (L.getD j 0))) ∧ Below base w0 W
theorem HWd.bel {w w' : World} {g : Nat} {L : List Nat} (h : HWd w g L) (hb : Below w.heap.size w w') : HWd w' g L :=
  ⟨fun j hj => rangeAt_bel (h.1 j hj) hb, there_bel h.2.1 hb h.2.2, Nat.lt_of_lt_of_le h.2.2 hb.size⟩
theorem OwnWd.ranges {w : World} {base n cap g : Nat} {L : List Nat} (h : OwnWd w base (.slice (some ⟨g, 0, none⟩) n cap) L) (j : Nat) (hj : j < L.length) : w.rangeAt g (j * 32) (wl (L.getD j 0)) := by
  obtain ⟨a, c, e, hr⟩ := h.view
  injection e with e1 e2 e3
  subst e1
  have := hr.range j hj
  rw [Nat.zero_add] at this
  exact this
/-- append of one word onto a row of the call's own: the old words stay where they were. -/
theorem wp_append_Wb {o : Oper} {a : Act} {K : Act → World → Prop} {Q : Exit → Act → World → Prop} (w : World) (s x : Operand)
    (ho : o.op = .call { callee := .builtin .append, args := #[s, x], argTypes := #[67, 67] })
    (base g n cap : Nat) (L : List Nat) (u gx : Nat) (hn : L.length = n) (hown : OwnWd w base (.slice (some ⟨g, 0, none⟩) n cap) L) (hs : a.eval s = .slice (some ⟨g, 0, none⟩) n cap)
    (hx : a.eval x = .slice (some ⟨gx, 0, none⟩) 1 1) (hb : Blk w gx 69 (wcl [u]).toArray) (hm : n ≤ 1000) (hbase : base ≤ w.heap.size)
    (h : ∀ v' w', OwnWd w' base v' (L ++ [u]) → Below base w w' → (∀ j, j < n → w'.rangeAt g (j * 32) (wl (L.getD j 0))) → K (a.put o.dst v') w') :
    o.wp Try.prog a w K Q := by
  subst hn
  obtain ⟨i0, hi, hz0, hz1, hz2⟩ := info_parts info_wd
  have hzs : (Value.agg (fcells 32 (tval fun _ => false))).cells.size = 32 := by show (fcells 32 _).size = 32; rw [fcells_size]
  have hnews : ∀ j y, (wcl [u])[j]? = some y → w.cell? ((⟨gx, 0, none⟩ : Addr).add j) = some y := fun j y hy => by
    have e1 : (⟨gx, 0, none⟩ : Addr).add j = ⟨gx, j, none⟩ := by unfold Addr.add; split <;> simp_all
    rw [e1, hb.cell]
    simpa using hy
  have hnl : (wcl [u]).length = 1 * 32 := by rw [wcl_len]; rfl
  obtain ⟨v', w', hrun, r2, r3, _⟩ := run_append_own w base 67 o.type 69 i0 _ 32 32 Try.underlying67 hi hz0 hz1 hz2 hzs (by decide) _ _ _ hown ⟨gx, 0, none⟩ 1 1 (wcl [u]) hnl hnews (wcl_cell [u])
    (by unfold maxLen; omega) (by omega) hbase
  have hown2 : OwnWd w' base v' (L ++ [u]) := by unfold OwnWd; rw [wcl_append, List.length_append]; exact r2
  have hrows : ∀ j, j < L.length → w'.rangeAt g (j * 32) (wl (L.getD j 0)) := by
    by_cases hroom : L.length + 1 ≤ cap
    · obtain ⟨g', c', cur, e, _, hg, hnc, hcm, hcs, htake⟩ := hown.2.resolve_left (fun hh => by cases hh.1)
      injection e with e1 e2 e3
      injection e1 with e1
      injection e1 with e1 _ _
      subst e1 e3
      have hr := run_append_room (P := Try.prog) w 67 o.type 69 i0 Try.underlying67 hi g L.length cap cur hg ⟨gx, 0, none⟩ 1 1 (wcl [u]) (by rw [hnl, hz1]) hnews (wcl_cell [u]) hroom (by rw [hnl, hz1, hcs]; omega)
      rw [hr] at hrun
      injection hrun with h1 h2
      subst h1
      intro j hj
      have := hown2.ranges j (by rw [List.length_append]; exact Nat.lt_of_lt_of_le hj (Nat.le_add_right _ _))
      rw [show (L ++ [u]).getD j 0 = L.getD j 0 by simp only [List.getD_eq_getElem?_getD]; rw [List.getElem?_append_left hj]] at this
      exact this
    · have holds : ∀ j y, (wcl L)[j]? = some y → w.cell? ((⟨g, 0, none⟩ : Addr).add j) = some y := World.ownsRow.cells hown (g := g) rfl
      have hr := run_append_grow (P := Try.prog) w 67 o.type 69 i0 _ Try.underlying67 hi hz0 ⟨g, 0, none⟩ L.length cap (wcl L) (by rw [wcl_len, hz1]) holds ⟨gx, 0, none⟩ 1 1 (wcl [u]) (by rw [hnl, hz1]) hnews (by omega) (by omega)
        (by rw [hz2]; have := _root_.Go.nextslicecap_le (need := L.length + 1) (old := cap) (by omega); omega)
      rw [hr] at hrun
      injection hrun with h1 h2
      intro j hj
      rw [← h2]
      exact rangeAt_bel (hown.ranges j hj) ((Below.refl w.heap.size w).drew.alloc (Nat.le_refl _) _)
  have hk := h v' w' hown2 (below_grown hown r3 hbase) hrows
  unfold Oper.wp execOp
  simp only [ho, resolve, invoke, builtin, Sem.run_bind, Sem.run_pure, Result.andThen_ok, List.map_toArray, List.map_cons, List.map_nil, hs, hx, hrun]
  exact hk
theorem SWd.of {g base : Nat} {L : List Nat} {w0 w W : World} (h1 : ∀ j, j < L.length → w.rangeAt g (j * 32) (wl (L.getD j 0))) (h2 : Below base w0 w) (hle : base ≤ w.heap.size) (e : Below w.heap.size w W) : SWd g L base w0 W :=
  ⟨fun j hj => rangeAt_bel (h1 j hj) e, h2.trans (e.mono hle)⟩
theorem sum4 (a b c d : Nat) : [a, b, c, d].sum = a + b + c + d := by
  simp only [List.sum_cons, List.sum_nil]; omega
theorem turn_sg0 (x : Nat) : turnN x 7 18 3 true = sg0 x := by
  unfold turnN sg0
  simp only [if_true]
theorem turn_sg1 (x : Nat) : turnN x 17 19 10 true = sg1 x := by
  unfold turnN sg1
  simp only [if_true]
theorem sum_s (a b c d : Nat) : [a, turnN b 7 18 3 true, c, turnN d 17 19 10 true].sum % 4294967296 = (a + sg0 b + c + sg1 d) % 4294967296 := by
  rw [sum4, turn_sg0, turn_sg1]
theorem sched_sum (p : List UInt8) (k : Nat) (hk : k < 48) : [sched p k, turnN (sched p (k + 1)) 7 18 3 true, sched p (k + 9), turnN (sched p (k + 14)) 17 19 10 true].sum % 4294967296 = sched p (k + 16) :=
  (sum_s _ _ _ _).trans (sched_next p k hk).symm
theorem getD_map (f : Nat → Nat) (m j : Nat) (h : j < m) : ((List.range m).map f).getD j 0 = f j := by
  rw [List.getD_eq_getElem?_getD, List.getElem?_map, List.getElem?_range h]
  simp only [Option.map_some, Option.getD_some]
theorem getD_sched (p : List UInt8) (m j : Nat) (h : j < m) : ((List.range m).map (sched p)).getD j 0 = sched p j := getD_map _ m j h
end Go.Proofs.Ytbccljpbnbobmaa
