/- Rows of pairs: sorted, cloned; their symbols. Conditions: weights within bounds. -/
import Derived.Test.YtahgeeklenojjaaSortE
import Derived.Test.YtahgeeklenojjaaPmQ
import Derived.Test.YtahgeeklenojjaaIRow
import Derived.Deep.AppendLies
import Derived.Laws.AppendOwnNone
namespace Go.Proofs.Ytahgeeklenojjaa
open Go.RowKit
set_option maxRecDepth 100000

def pvals (Xs : List Pr) : List Value := Xs.flatMap fun x => [.int .i64 x.k, x.s]
theorem pvals_app (A B : List Pr) : pvals (A ++ B) = pvals A ++ pvals B := List.flatMap_append
theorem pvals_len (Xs : List Pr) : (pvals Xs).length = Xs.length * 2 := by
  induction Xs with
  | nil => rfl
  | cons x r ih => show ([Value.int .i64 x.k, x.s] ++ pvals r).length = _; rw [List.length_append, ih, List.length_cons]; simp; omega
theorem pvals_one (Xs : List Pr) : ∀ u ∈ pvals Xs, u.oneCell' = true := by
  intro u hu
  obtain ⟨x, _, hx⟩ := List.mem_flatMap.1 hu
  rcases List.mem_cons.1 hx with rfl | hx
  · rfl
  · rcases List.mem_cons.1 hx with rfl | hx
    · rfl
    · cases hx
instance : Inhabited Pr := ⟨⟨0, none, 0, 0⟩⟩
def prf (Xs : List Pr) (i : Nat) : Pr := Xs.getD i default
theorem prf_get {Xs : List Pr} {i : Nat} (h : i < Xs.length) : prf Xs i = Xs[i] := by simp [prf, List.getD, h]
theorem prf_seg (Xs : List Pr) : seg (prf Xs) 0 Xs.length = Xs := by
  apply List.ext_getElem?
  intro i
  by_cases h : i < Xs.length
  · rw [seg_get _ _ _ _ (by omega), Nat.zero_add, prf_get h, List.getElem?_eq_getElem h]
  · rw [List.getElem?_eq_none (by rw [seg_len]; omega), List.getElem?_eq_none (by omega)]
theorem pcells_prf (Xs : List Pr) : pcells Xs.length (prf Xs) = (pvals Xs).toArray := by
  have key : ∀ Xs : List Pr, (pvals Xs)= (List.range (2 * Xs.length)).map (pcell (prf Xs)) := by
    intro Xs
    induction Xs with
    | nil => rfl
    | cons x r ih =>
      rw [List.length_cons, show 2 * (r.length + 1) = 2 * r.length + 1 + 1 by omega, List.range_succ_eq_map, List.map_cons, List.range_succ_eq_map, List.map_cons, List.map_cons, List.map_map, List.map_map]
      show Value.int .i64 x.k :: x.s :: pvals r = _
      rw [ih]
      congr 2
      apply List.map_congr_left
      intro i _
      unfold pcell
      show (if i % 2 = 0 then _ else _) = (if (i + 1 + 1) % 2 = 0 then _ else _)
      have e : (i + 1 + 1) / 2 = i / 2 + 1 := by omega
      by_cases h : i % 2 = 0
      · rw [if_pos h, if_pos (by omega), e]; rfl
      · rw [if_neg h, if_neg (by omega), e]; rfl
  unfold pcells fcells
  rw [key]
/-- These pairs lie at the beginning of block g. -/
def PL (w : World) (g : Nat) (Xs : List Pr) : Prop := PB w g Xs.length (prf Xs)
theorem pl_own {w : World} {base g N cap : Nat} {Xs : List Pr} (h : w.ownsRow base 56 2 (.slice (some ⟨g, 0, none⟩) N cap) N (pvals Xs)) : PL w g Xs := by
  rcases h.2 with ⟨h, _⟩ | ⟨g', cap', cur, h, _, hh, h1, _, h3, h4⟩
  · cases h
  · injection h with e1 e2 e3
    injection e1 with e1
    injection e1 with e1
    subst e1
    refine ⟨(cur.toList.drop (N * 2)).toArray, ?_⟩
    rw [pcells_prf, ← h4]
    show w.heap[g]? = _
    rw [hh]
    have : (cur.toList.take (N * 2)).toArray ++ (cur.toList.drop (N * 2)).toArray = cur := by
      apply Array.toList_inj.1
      simp
    rw [this]
/-- A row of pairs. -/
def RowV (w : World) (base : Nat) (v : Value) (Xs : List Pr) : Prop :=
  (v = .slice none 0 0 ∧ Xs = []) ∨ ∃ g cap, v = .slice (some ⟨g, 0, none⟩) Xs.length cap ∧ Xs.length ≤ cap ∧ base ≤ g ∧ PL w g Xs
theorem row_own {w : World} {base : Nat} {v : Value} {Xs : List Pr} (h : w.ownsRow base 56 2 v Xs.length (pvals Xs)) : RowV w base v Xs := by
  rcases h.2 with ⟨rfl, h0⟩ | ⟨g, cap, cur, rfl, hb, hh, h1, _⟩
  · exact .inl ⟨rfl, List.eq_nil_of_length_eq_zero h0⟩
  · exact .inr ⟨g, cap, rfl, h1, hb, pl_own h⟩
theorem RowV.form {w : World} {base : Nat} {v : Value} {Xs : List Pr} (h : RowV w base v Xs) : ∃ a cap, v = .slice a Xs.length cap ∧ Xs.length ≤ cap := by
  rcases h with ⟨rfl, rfl⟩ | ⟨g, cap, rfl, h, _⟩
  · exact ⟨none, 0, rfl, Nat.le_refl _⟩
  · exact ⟨_, cap, rfl, h⟩
theorem RowV.get {w : World} {base N cap : Nat} {a : Option Addr} {Xs : List Pr} (h : RowV w base (.slice a N cap) Xs) (i : Nat) (hi : i < Xs.length) : ∃ g, a = some ⟨g, 0, none⟩ ∧ base ≤ g ∧ g < w.heap.size ∧ w.cell? ⟨g, i * 2, none⟩ = some (.int .i64 (Xs[i]).k) ∧ w.cell? ⟨g, i * 2 + 1, none⟩ = some (Xs[i]).s := by
  rcases h with ⟨_, rfl⟩ | ⟨g, cap', h1, _, h3, h4⟩
  · simp at hi
  · injection h1 with h1
    have hk := PB.k h4 i hi
    have hs := PB.s h4 i hi
    rw [prf_get hi] at hk hs
    exact ⟨g, h1, h3, PB.lt h4, hk, hs⟩
/-- Blocks that aren't a row's own are unchanged. -/
theorem RowV.grown {w w' : World} {base : Nat} {v : Value} {Xs : List Pr} {r : Option Nat} (h : RowV w base v Xs) (hg : w.grownBy w' r) (hr : v.ownBlock = none ∨ v.ownBlock ≠ r) : RowV w' base v Xs := by
  rcases h with h | ⟨g, cap, rfl, h2, h3, h4⟩
  · exact .inl h
  · refine .inr ⟨g, cap, rfl, h2, h3, PB.grown h4 hg ?_⟩
    rcases hr with hr | hr
    · simp [Value.ownBlock] at hr
    · exact hr
theorem RowV.below {w w' : World} {base : Nat} {v : Value} {Xs : List Pr} (h : RowV w base v Xs) (hb : Below w.heap.size w w') : RowV w' base v Xs := by
  rcases h with h | ⟨g, cap, rfl, h2, h3, h4⟩
  · exact .inl h
  · exact .inr ⟨g, cap, rfl, h2, h3, PB.below h4 hb (PB.lt h4)⟩
theorem pb_seg {w : World} {g : Nat} {Xs : List Pr} {y : Nat → Pr} {N : Nat} (h : PB w g N y) (hs : seg y 0 N = Xs) : PL w g Xs := by
  have hl : Xs.length = N := by rw [← hs, seg_len]; omega
  subst hl
  obtain ⟨R, h⟩ := h
  refine ⟨R, ?_⟩
  have e : pcells Xs.length (prf Xs) = pcells Xs.length y := by
    unfold pcells
    refine fcells_congr _ _ _ fun i hi => ?_
    have hj : i / 2 < Xs.length := by omega
    have : prf Xs (i / 2) = y (i / 2) := by
      rw [prf_get hj]
      have h1 := seg_get y 0 Xs.length (i / 2) (by omega)
      rw [hs, List.getElem?_eq_getElem hj, Nat.zero_add] at h1
      injection h1
    unfold pcell
    rw [this]
  rw [e]
  exact h
def KL (Xs : List Pr) : Prop := ∀ x ∈ Xs, -1000000000000000 ≤ x.k ∧ x.k ≤ 1000000000000000
theorem sort_row (base : Nat) (v : Value) (Xs : List Pr) (hl : Xs.length ≤ 100000) (hk : KL Xs) (w : World) (h : RowV w base v Xs) :
    Calls Try.prog 22 #[v, .func (.func 23) #[] #[]] w fun e w' => e = .returned (.tuple #[]) ∧ w.grownBy w' v.ownBlock ∧ RowV w' base v (isort pk Xs) := by
  rcases h with ⟨rfl, rfl⟩ | ⟨g, cap, rfl, h2, h3, h4⟩
  · refine (sort_nil w).mono ?_
    rintro e w' ⟨h1, rfl⟩
    exact ⟨h1, ⟨rfl, rfl, rfl, Nat.le_refl _, fun _ _ _ => rfl⟩, .inl ⟨rfl, rfl⟩⟩
  · have hkb : KB (prf Xs) Xs.length := fun i hi => by rw [prf_get hi]; exact hk _ (List.getElem_mem hi)
    refine (sort_any g Xs.length Xs.length cap (Nat.le_refl _) hl (prf Xs) hkb w h4).mono ?_
    rintro e w' ⟨h5, h6, y, h7, h8, h9, _⟩
    refine ⟨h5, h6, .inr ⟨g, cap, ?_, ?_, h3, ?_⟩⟩
    · rw [(isort_perm pk Xs).length_eq]
    · rw [(isort_perm pk Xs).length_eq]; exact h2
    · rw [prf_seg] at h9
      exact pb_seg h7 h9
theorem info_pair : (Try.prog.info? 56).map (fun i => (i.zero, i.size, i.bytes)) = some (some (.agg #[.int .i64 0, .slice none 0 0]), 2, 32) := by kernel_rfl
theorem pl_news {w : World} {g : Nat} {Xs : List Pr} (h : PL w g Xs) : ∀ j u, (pvals Xs)[j]? = some u → w.cell? ((⟨g, 0, none⟩ : Addr).add j) = some u := by
  intro j u hu
  have hadd : (⟨g, 0, none⟩ : Addr).add j = ⟨g, j, none⟩ := by unfold Addr.add; split <;> simp_all
  obtain ⟨R, h⟩ := h
  rw [hadd, Blk.cell h j, pcells_prf]
  have hj : j < (pvals Xs).length := by
    by_cases e : j < (pvals Xs).length
    · exact e
    · rw [List.getElem?_eq_none (by omega)] at hu; cases hu
  rw [Array.getElem?_append_left (by simpa using hj)]
  simpa using hu

theorem eql_nil (W : World) : Sem.run Try.prog (binOp BinOp.eql 54 (.slice none 0 0) (.slice none 0 0)) W = .ok (.bool true) W := by kernel_rfl
theorem eql_some (g N cap : Nat) (W : World) : Sem.run Try.prog (binOp BinOp.eql 54 (.slice (some ⟨g, 0, none⟩) N cap) (.slice none 0 0)) W = .ok (.bool false) W := by kernel_rfl

set_option maxHeartbeats 4000000 in
theorem clone_row (base : Nat) (v : Value) (Xs : List Pr) (hl : Xs.length ≤ 100000) (w : World) (h : RowV w base v Xs) :
    Calls Try.prog 25 #[v] w fun e w' => ∃ v', e = .returned v' ∧ w'.ownsRow w.heap.size 56 2 v' Xs.length (pvals Xs) ∧ Below w.heap.size w w' := by
  rcases h with ⟨rfl, rfl⟩ | ⟨g, cap, rfl, h2, h3, h4⟩
  · have hq := eql_nil
    go_enter Try.func25, Try.ntmps25
    go_wp2_with fail
    go_ret
    exact ⟨_, rfl, World.ownsRow_nil _ _ _ _, Below.refl _ _⟩
  · have hr0 := World.ownsRow_made (base := w.heap.size) (e := 56) (size := 2) w #[] 0 (Nat.le_refl _) (Nat.zero_le _) rfl
    have hb0 := (Below.refl w.heap.size w).alloc (Nat.le_refl _) (.cells #[] 56)
    have hP : PL (w.alloc (.cells #[] 56)) g Xs := PB.below h4 hb0 (PB.lt h4)
    have Hnews := Lib.hid (pl_news hP)
    have HB0 := Lib.hid hb0
    have Hr0 := Lib.hid hr0
    obtain ⟨N, HN⟩ : ∃ R, Hid (Xs.length = R) := ⟨_, Lib.hid (Eq.refl _)⟩
    have hpl := pvals_len Xs
    rw [HN.out] at hl hpl h2 ⊢
    obtain ⟨i0, hi', hz0, hz1, hz2⟩ := info_parts info_pair
    have Hpl := Lib.hid hpl
    clear hP hb0 h4 hr0 hpl
    have hq := eql_some g N cap
    by_cases h0 : N = 0
    · have hx0 : Xs = [] := List.eq_nil_of_length_eq_zero (by rw [HN.out]; exact h0)
      subst h0
      subst hx0
      go_enter Try.func25, Try.ntmps25
      go_wp2_with (at_builtin; go_must (refine wpList_append_own_at (w.alloc (.cells #[] 56)) rfl (.tmp 5) (.tmp 6) 54 rfl w.heap.size 56 i0 _ 2 32 Try.underlying54 hi' hz0 hz1 hz2 rfl (by decide) (.slice (some ⟨w.heap.size, 0, none⟩) 0 0) 0 [] rfl Hr0.out ⟨g, 0, none⟩ 0 cap [] rfl rfl (fun j u hu => by simp at hu) (fun u hu => by cases hu) ?_ ?_ HB0.out.size ?_; (unfold maxLen; omega); omega; intro v1 w1 ho1 hg1 _ _; have HO1 := Lib.hid ho1; have HG1 := Lib.hid (below_grown Hr0.out hg1 HB0.out.size); clear ho1 hg1))
      go_ret
      exact ⟨_, rfl, HO1.out, HB0.out.trans HG1.out⟩
    · have hN : 0 < N := by omega
      go_enter Try.func25, Try.ntmps25
      go_wp2_with (at_builtin; go_must (refine wpList_append_lies (w.alloc (.cells #[] 56)) rfl (.tmp 5) (.tmp 6) 54 rfl w.heap.size 56 i0 _ 2 32 Try.underlying54 hi' hz0 hz1 hz2 rfl (by decide) (.slice (some ⟨w.heap.size, 0, none⟩) 0 0) 0 [] rfl Hr0.out ⟨g, 0, none⟩ N cap (pvals Xs) rfl Hpl.out Hnews.out (fun u hu => pvals_one Xs u hu) hN ?_ ?_ HB0.out.size _ rfl ?_; (unfold maxLen; omega); omega; intro g1 cap1 w1 ho1 hg1 _ _; rw [Nat.zero_add, List.nil_append] at ho1; have HO1 := Lib.hid ho1; have HG1 := Lib.hid (below_grown Hr0.out hg1 HB0.out.size); rw [Nat.zero_add]; clear ho1 hg1))
      go_ret
      exact ⟨_, rfl, HO1.out, HB0.out.trans HG1.out⟩
end Go.Proofs.Ytahgeeklenojjaa
