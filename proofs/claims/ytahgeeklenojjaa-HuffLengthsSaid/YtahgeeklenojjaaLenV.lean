/- Rows of pairs and what their symbols are. Conditions: none. -/
import Derived.Test.YtahgeeklenojjaaLenW
import Derived.Test.YtahgeeklenojjaaCat2
import Derived.Test.YtahgeeklenojjaaNewW
import Derived.Test.YtahgeeklenojjaaTreeM
import Derived.Test.YtahgeeklenojjaaSink
namespace Go.Proofs.Ytahgeeklenojjaa
open Go.RowKit
set_option maxRecDepth 100000

/-- The pair x is the thing y: its symbols lie in a block of ints at B or later. -/
def SyR (w : World) (B : Nat) (x : Pr) (y : It) : Prop :=
  x.k = y.k ∧ ∃ b cs, x.a = some ⟨b, 0, none⟩ ∧ B ≤ b ∧ Blk w b 3 cs ∧ x.n = y.l.length ∧ ∀ i, i < y.l.length → cs[i]? = some (.int .i64 ((y.l.getD i 0 : Nat) : Int))
/-- Blocks of ints from B on are left alone. -/
def KeepI (B : Nat) (w w' : World) : Prop := ∀ b, B ≤ b → ∀ cs, Blk w b 3 cs → Blk w' b 3 cs
theorem KeepI.trans {B : Nat} {w w1 w2 : World} (h : KeepI B w w1) (k : KeepI B w1 w2) : KeepI B w w2 := fun b hb cs hc => k b hb cs (h b hb cs hc)
theorem KeepI.below {B : Nat} {w w' : World} (h : Below w.heap.size w w') : KeepI B w w' := fun _ _ _ hc => hc.below h hc.lt
theorem own_neI {w : World} {base e s n b t : Nat} {v : Value} {x : List Value} {cs : Array Value} (h : w.ownsRow base e s v n x) (hB : Blk w b t cs) (hne : e ≠ t) : some b ≠ v.ownBlock := by
  rcases trow_blk h hB hne with e | e
  · rw [e]; simp
  · exact fun x => e x.symm
theorem KeepI.row {B : Nat} {w w' : World} {v : Value} {base n : Nat} {x : List Value} (h : w.ownsRow base 56 2 v n x) (hg : w.grownBy w' v.ownBlock) : KeepI B w w' :=
  fun _ _ _ hc => Blk.grown hc hg (own_neI h hc (by decide))
theorem rowv_ne {w : World} {base b : Nat} {v : Value} {Xs : List Pr} {cs : Array Value} (h : RowV w base v Xs) (hB : Blk w b 3 cs) : some b ≠ v.ownBlock := by
  rcases h with ⟨rfl, _⟩ | ⟨g, cap, rfl, _, _, R, hg⟩
  · simp [Value.ownBlock]
  · intro e
    simp only [Value.ownBlock, Option.some.injEq] at e
    subst e
    have h1 : w.heap[b]? = some (.cells (pcells Xs.length (prf Xs) ++ R) 56) := hg
    have h2 : w.heap[b]? = some (.cells cs 3) := hB
    rw [h1] at h2
    simp only [Option.some.injEq, Obj.cells.injEq] at h2
    exact absurd h2.2.1 (by decide)
theorem KeepI.rowv {B : Nat} {w w' : World} {v : Value} {base : Nat} {Xs : List Pr} (h : RowV w base v Xs) (hg : w.grownBy w' v.ownBlock) : KeepI B w w' :=
  fun _ _ _ hc => Blk.grown hc hg (rowv_ne h hc)
theorem SyR.keep {w w' : World} {B : Nat} {x : Pr} {y : It} (h : SyR w B x y) (hk : KeepI B w w') : SyR w' B x y := by
  obtain ⟨h1, b, cs, h2, h3, h4, h5⟩ := h
  exact ⟨h1, b, cs, h2, h3, hk b h3 cs h4, h5⟩
abbrev Zt := Pr × It
def SyL (w : World) (B : Nat) (Zs : List Zt) : Prop := ∀ z ∈ Zs, SyR w B z.1 z.2
theorem SyL.keep {w w' : World} {B : Nat} {Zs : List Zt} (h : SyL w B Zs) (hk : KeepI B w w') : SyL w' B Zs := fun z hz => (h z hz).keep hk
def fsts (Zs : List Zt) : List Pr := Zs.map Prod.fst
def snds (Zs : List Zt) : List It := Zs.map Prod.snd
theorem fsts_len (Zs : List Zt) : (fsts Zs).length = Zs.length := by simp [fsts]
theorem snds_len (Zs : List Zt) : (snds Zs).length = Zs.length := by simp [snds]
theorem fsts_app (A B : List Zt) : fsts (A ++ B) = fsts A ++ fsts B := List.map_append
theorem snds_app (A B : List Zt) : snds (A ++ B) = snds A ++ snds B := List.map_append
theorem own_below {w w' : World} {base e s n : Nat} {v : Value} {xs : List Value} (h : w.ownsRow base e s v n xs) (hb : Below w.heap.size w w') : w'.ownsRow base e s v n xs := by
  have hlt := World.ownsRow.lt h
  refine ⟨h.1, ?_⟩
  rcases h.2 with h | ⟨g, cap, cur, rfl, a1, a2, a3⟩
  · exact .inl h
  · exact .inr ⟨g, cap, cur, rfl, a1, (hb.block g (hlt g rfl).2).trans a2, a3⟩
theorem size_le_new (w : World) (o : Obj) : w.heap.size ≤ (w.alloc o).heap.size := by rw [size_new]; exact Nat.le_succ _
theorem two_one (k : Int) (g n c : Nat) : ∀ u ∈ [Value.int .i64 k, Value.slice (some ⟨g, 0, none⟩) n c], u.oneCell' = true := by
  intro y hy
  simp at hy
  rcases hy with rfl | rfl <;> rfl
/-- A coin more. -/
theorem coin_step {w0 wr w' : World} {O : Nat} {v v' : Value} {Zs : List Zt} {s : Nat} {x : Int} {cz : Array Value} (hO : w0.heap.size ≤ O) (h1 : wr.ownsRow (O + 1) 56 2 v Zs.length (pvals (fsts Zs))) (h2 : SyL wr (O + 1) Zs) (h3 : Blk wr O 3 cz) (hb : Below w0.heap.size w0 wr)
    (ho : w'.ownsRow (O + 1) 56 2 v' (Zs.length + 1) (pvals (fsts Zs) ++ [.int .i64 x, .slice (some ⟨wr.heap.size, 0, none⟩) 1 1])) (hg : (wr.alloc (.cells #[.int .i64 (s : Int)] 3)).grownBy w' v.ownBlock) :
    w'.ownsRow (O + 1) 56 2 v' (Zs ++ [((⟨x, some ⟨wr.heap.size, 0, none⟩, 1, 1⟩, ⟨x, [s]⟩) : Zt)]).length (pvals (fsts (Zs ++ [((⟨x, some ⟨wr.heap.size, 0, none⟩, 1, 1⟩, ⟨x, [s]⟩) : Zt)]))) ∧ SyL w' (O + 1) (Zs ++ [(⟨x, some ⟨wr.heap.size, 0, none⟩, 1, 1⟩, ⟨x, [s]⟩)]) ∧ Blk w' O 3 cz ∧ Below w0.heap.size w0 w' := by
  have hal : Below wr.heap.size wr (wr.alloc (.cells #[.int .i64 (s : Int)] 3)) := (Below.refl wr.heap.size wr).alloc (Nat.le_refl _) _
  have hown2 : (wr.alloc (.cells #[.int .i64 (s : Int)] 3)).ownsRow (O + 1) 56 2 v Zs.length (pvals (fsts Zs)) := by
    have hlt := World.ownsRow.lt h1
    refine ⟨h1.1, ?_⟩
    rcases h1.2 with h | ⟨g, cap, cur, rfl, a1, a2, a3⟩
    · exact .inl h
    · exact .inr ⟨g, cap, cur, rfl, a1, (hal.block g (hlt g rfl).2).trans a2, a3⟩
  have hk : KeepI (O + 1) (wr.alloc (.cells #[.int .i64 (s : Int)] 3)) w' := KeepI.row hown2 hg
  have hOl := h3.lt
  refine ⟨?_, ?_, ?_, ?_⟩
  · rw [List.length_append, fsts_app, pvals_app]
    exact ho
  · intro z hz
    rcases List.mem_append.1 hz with hz | hz
    · exact ((h2 z hz).keep (KeepI.below hal)).keep hk
    · rcases List.mem_cons.1 hz with rfl | hz
      · refine ⟨rfl, wr.heap.size, #[.int .i64 (s : Int)], rfl, hOl, hk wr.heap.size hOl _ (Blk.new wr _ _), rfl, fun i hi => ?_⟩
        have : i = 0 := by simpa using hi
        subst this
        rfl
      · cases hz
  · refine Blk.grown (h3.alloc _) hg ?_
    intro e
    have := (World.ownsRow.lt hown2 O e.symm).1
    omega
  · have hs := (hb.trans (hal.mono hb.size))
    exact hs.grown hg hs.size fun k hk2 => by have := (World.ownsRow.lt hown2 k hk2).1; omega
/-- Sorting goes along with what the pairs are. -/
theorem mrg_map {α β : Type} (f : α → β) (w : β → Int) : ∀ (n : Nat) (A B : List α), A.length + B.length ≤ n → mrg w (A.map f) (B.map f) = (mrg (fun x => w (f x)) A B).map f := by
  intro n
  induction n with
  | zero =>
    intro A B h
    have : A = [] := List.eq_nil_of_length_eq_zero (by omega)
    subst this
    rw [mrg_nil, List.map_nil, mrg_nil]
  | succ n ih =>
    intro A B h
    match A, B, h with
    | [], B, _ => rw [mrg_nil, List.map_nil, mrg_nil]
    | a :: A, [], _ => rw [mrg_nil', List.map_nil, mrg_nil']
    | a :: A, b :: B, h =>
      simp only [List.length_cons] at h
      rw [mrg_cons, List.map_cons, List.map_cons, mrg_cons]
      split
      · rw [List.map_cons, ← ih (a :: A) B (by simp only [List.length_cons]; omega)]; rfl
      · rw [List.map_cons, ← ih A (b :: B) (by simp only [List.length_cons]; omega)]; rfl
theorem isort_map {α β : Type} (f : α → β) (w : β → Int) (L : List α) : isort w (L.map f) = (isort (fun x => w (f x)) L).map f := by
  have key : ∀ (n : Nat) (b : List α), b.length = n → isort w (b.map f) = (isort (fun x => w (f x)) b).map f := by
    intro n
    induction n with
    | zero =>
      intro b h
      have : b = [] := List.eq_nil_of_length_eq_zero h
      subst this
      rfl
    | succ n ih =>
      intro b h
      have hne : b ≠ [] := by intro e; subst e; simp at h
      obtain ⟨c, x, rfl⟩ : ∃ c x, b = c ++ [x] := ⟨b.dropLast, b.getLast hne, (List.dropLast_concat_getLast hne).symm⟩
      rw [List.length_append] at h
      simp only [List.length_cons, List.length_nil] at h
      rw [List.map_append, List.map_cons, List.map_nil, isort_snoc, isort_snoc, ih c (by omega)]
      exact mrg_map f w _ _ [x] (Nat.le_refl _)
  exact key _ L rfl
theorem mrg_congr {α : Type} (w w' : α → Int) : ∀ (n : Nat) (A B : List α), A.length + B.length ≤ n → (∀ x ∈ A, w x = w' x) → (∀ x ∈ B, w x = w' x) → mrg w A B = mrg w' A B := by
  intro n
  induction n with
  | zero =>
    intro A B h _ _
    have : A = [] := List.eq_nil_of_length_eq_zero (by omega)
    subst this
    rw [mrg_nil, mrg_nil]
  | succ n ih =>
    intro A B h hA hB
    match A, B, h, hA, hB with
    | [], B, _, _, _ => rw [mrg_nil, mrg_nil]
    | a :: A, [], _, _, _ => rw [mrg_nil', mrg_nil']
    | a :: A, b :: B, h, hA, hB =>
      simp only [List.length_cons] at h
      rw [mrg_cons, mrg_cons, hA a (List.mem_cons_self ..), hB b (List.mem_cons_self ..), ih (a :: A) B (by simp only [List.length_cons]; omega) hA (fun x hx => hB x (List.mem_cons_of_mem _ hx)), ih A (b :: B) (by simp only [List.length_cons]; omega) (fun x hx => hA x (List.mem_cons_of_mem _ hx)) hB]
theorem isort_congr {α : Type} (w w' : α → Int) (L : List α) (hL : ∀ x ∈ L, w x = w' x) : isort w L = isort w' L := by
  have key : ∀ (n : Nat) (b : List α), b.length = n → (∀ x ∈ b, w x = w' x) → isort w b = isort w' b := by
    intro n
    induction n with
    | zero =>
      intro b h _
      have : b = [] := List.eq_nil_of_length_eq_zero h
      subst this
      rfl
    | succ n ih =>
      intro b h hb
      have hne : b ≠ [] := by intro e; subst e; simp at h
      obtain ⟨c, x, rfl⟩ : ∃ c x, b = c ++ [x] := ⟨b.dropLast, b.getLast hne, (List.dropLast_concat_getLast hne).symm⟩
      rw [List.length_append] at h
      simp only [List.length_cons, List.length_nil] at h
      have hc : ∀ x ∈ c, w x = w' x := fun x hx => hb x (List.mem_append_left _ hx)
      rw [isort_snoc, isort_snoc, ih c (by omega) hc]
      refine mrg_congr w w' _ _ [x] (Nat.le_refl _) (fun y hy => hc y ((isort_perm w' c).mem_iff.1 hy)) (fun y hy => ?_)
      rcases List.mem_cons.1 hy with rfl | hy
      · exact hb _ (by simp)
      · cases hy
  exact key _ L rfl hL
def kz (z : Zt) : Int := z.1.k
theorem sort_fst (Zs : List Zt) : isort pk (fsts Zs) = fsts (isort kz Zs) := isort_map Prod.fst pk Zs
theorem sort_snd {w : World} {B : Nat} {Zs : List Zt} (h : SyL w B Zs) : isort ik (snds Zs) = snds (isort kz Zs) := by
  unfold snds
  rw [isort_map Prod.snd ik Zs]
  congr 1
  exact isort_congr _ _ _ fun z hz => ((h z hz).1).symm
theorem SyL.sort {w : World} {B : Nat} {Zs : List Zt} (h : SyL w B Zs) : SyL w B (isort kz Zs) := fun z hz => h z ((isort_perm kz Zs).mem_iff.1 hz)
theorem isort_len {α : Type} (w : α → Int) (L : List α) : (isort w L).length = L.length := (isort_perm w L).length_eq
theorem rowv_base {w : World} {base k : Nat} {v : Value} {Xs : List Pr} (h : RowV w base v Xs) (hk : v.ownBlock = some k) : base ≤ k := by
  rcases h with ⟨rfl, _⟩ | ⟨g, cap, rfl, _, h3, _⟩
  · simp [Value.ownBlock] at hk
  · simp only [Value.ownBlock, Option.some.injEq] at hk
    omega
theorem below_rowv {w0 w w' : World} {B0 base : Nat} {v : Value} {Xs : List Pr} (hb : Below B0 w0 w) (h : RowV w base v Xs) (hB : B0 ≤ base) (hg : w.grownBy w' v.ownBlock) (hs : B0 ≤ w.heap.size) : Below B0 w0 w' :=
  hb.grown hg hs fun k hk => by have := rowv_base h hk; omega
/-- Weights and lengths of the rows' things. -/
theorem rowN_lim (A : List It) (M : Int) (hM : 0 ≤ M) (hA : ∀ x ∈ A, x.k ≤ M ∧ x.l.length = 1) : ∀ k, ∀ x ∈ rowN A k, x.k ≤ M * 2 ^ k ∧ 1 ≤ x.l.length ∧ 2 * x.l.length ≤ 2 ^ k := by
  have key : ∀ (B : Int) (L : Nat) (n : Nat) (R : List It), R.length ≤ n → (∀ x ∈ R, x.k ≤ B ∧ 1 ≤ x.l.length ∧ 2 * x.l.length ≤ L) → ∀ x ∈ pairs R, x.k ≤ B * 2 ∧ 1 ≤ x.l.length ∧ 2 * x.l.length ≤ L * 2 := by
    intro B L n
    induction n using Nat.strongRecOn with
    | ind n ih =>
      intro R h hR x hx
      match R, h, hR, hx with
      | a :: b :: R, h, hR, hx =>
        simp only [List.length_cons] at h
        rcases List.mem_cons.1 hx with rfl | hx
        · obtain ⟨a1, a2, a3⟩ := hR a (List.mem_cons_self ..)
          obtain ⟨b1, b2, b3⟩ := hR b (by simp)
          refine ⟨?_, ?_, ?_⟩
          · show a.k + b.k ≤ B * 2; omega
          · show 1 ≤ (a.l ++ b.l).length; rw [List.length_append]; omega
          · show 2 * (a.l ++ b.l).length ≤ L * 2; rw [List.length_append]; omega
        · exact ih R.length (by omega) R (Nat.le_refl _) (fun y hy => hR y (by simp [hy])) x hx
  intro k
  induction k with
  | zero => intro x hx; cases hx
  | succ k ih =>
    intro x hx
    rcases (mem_mrg ik _ _ x).1 hx with h | h
    · obtain ⟨h1, h2⟩ := hA x h
      have hp : 0 < 2 ^ k := Nat.pow_pos (by decide)
      have hpi : (1 : Int) ≤ 2 ^ (k + 1) := by
        have : ((2 : Int) ^ (k + 1)) = ((2 ^ (k + 1) : Nat) : Int) := by simp
        rw [this]
        have : 0 < 2 ^ (k + 1) := Nat.pow_pos (by decide)
        omega
      refine ⟨?_, by omega, by rw [h2, Nat.pow_succ]; omega⟩
      have := Int.mul_le_mul_of_nonneg_left hpi hM
      omega
    · obtain ⟨a, b, c⟩ := key (M * 2 ^ k) (2 ^ k) _ _ (Nat.le_refl _) ih x h
      refine ⟨?_, b, by rw [Nat.pow_succ]; exact c⟩
      rw [Int.pow_succ, ← Int.mul_assoc]
      exact a
theorem rowN_short (A : List It) : ∀ k, (rowN A k).length ≤ 2 * A.length := by
  intro k
  induction k with
  | zero => exact Nat.zero_le _
  | succ k ih => rw [rowN_len]; omega
/-- What a pair of the next row is. -/
theorem pair_step {w0 wr wc w' : World} {O Bn : Nat} {v v' : Value} {Zn : List Zt} {k1 k2 : Int} {l1 l2 : List Nat} {G cp : Nat} (hOB : O + 1 ≤ Bn) (hB0 : w0.heap.size = Bn) (h1 : wr.ownsRow Bn 56 2 v Zn.length (pvals (fsts Zn))) (h2 : SyL wr (O + 1) Zn) (hb : Below Bn w0 wr) (hw : Bn ≤ wr.heap.size)
    (hc : Below wr.heap.size wr wc) (hG : wr.heap.size ≤ G) (hrow : ∃ cs, Blk wc G 3 cs ∧ ∀ i, i < (l1 ++ l2).length → cs[i]? = some (.int .i64 (((l1 ++ l2).getD i 0 : Nat) : Int)))
    (ho : w'.ownsRow Bn 56 2 v' (Zn.length + 1) (pvals (fsts Zn) ++ [.int .i64 (k1 + k2), .slice (some ⟨G, 0, none⟩) (l1 ++ l2).length cp])) (hg : wc.grownBy w' v.ownBlock) :
    w'.ownsRow Bn 56 2 v' (Zn ++ [((⟨k1 + k2, some ⟨G, 0, none⟩, (l1 ++ l2).length, cp⟩, ⟨k1 + k2, l1 ++ l2⟩) : Zt)]).length (pvals (fsts (Zn ++ [((⟨k1 + k2, some ⟨G, 0, none⟩, (l1 ++ l2).length, cp⟩, ⟨k1 + k2, l1 ++ l2⟩) : Zt)]))) ∧ SyL w' (O + 1) (Zn ++ [(⟨k1 + k2, some ⟨G, 0, none⟩, (l1 ++ l2).length, cp⟩, ⟨k1 + k2, l1 ++ l2⟩)]) ∧ Below Bn w0 w' := by
  have hown2 : wc.ownsRow Bn 56 2 v Zn.length (pvals (fsts Zn)) := by
    have hlt := World.ownsRow.lt h1
    refine ⟨h1.1, ?_⟩
    rcases h1.2 with h | ⟨g, cap, cur, rfl, a1, a2, a3⟩
    · exact .inl h
    · exact .inr ⟨g, cap, cur, rfl, a1, (hc.block g (hlt g rfl).2).trans a2, a3⟩
  have hk : KeepI (O + 1) wc w' := KeepI.row hown2 hg
  refine ⟨?_, ?_, ?_⟩
  · rw [List.length_append, fsts_app, pvals_app]
    exact ho
  · intro z hz
    rcases List.mem_append.1 hz with hz | hz
    · exact ((h2 z hz).keep (KeepI.below hc)).keep hk
    · rcases List.mem_cons.1 hz with rfl | hz
      · obtain ⟨cs, c1, c2⟩ := hrow
        exact ⟨rfl, G, cs, rfl, by show O + 1 ≤ G; omega, hk G (by omega) cs c1, rfl, c2⟩
      · cases hz
  · have hs := hb.trans (hc.mono hw)
    exact hs.grown hg (by have := hc.size; omega) fun k hk2 => by have := (World.ownsRow.lt hown2 k hk2).1; omega
theorem pairs_snoc (R : List It) (q : Nat) (h : 2 * q + 1 < R.length) : pairs (R.take (2 * (q + 1))) = pairs (R.take (2 * q)) ++ [⟨R[2 * q].k + R[2 * q + 1].k, R[2 * q].l ++ R[2 * q + 1].l⟩] := by
  rw [← pairs_take, ← pairs_take]
  have hl : q < (pairs R).length := by rw [pairs_len _ _ (Nat.le_refl _)]; omega
  rw [List.take_succ_eq_append_getElem hl]
  congr 2
  have := pairs_get q R h
  rw [List.getElem?_eq_getElem hl] at this
  injection this
theorem concat_two (lA lB : List Nat) (hA : 1 ≤ lA.length ∧ lA.length ≤ 8192) (hB : 1 ≤ lB.length ∧ lB.length ≤ 8192) (bA bB cA cB G cap : Nat) (csA csB : Array Value) (W : World)
    (h : Blk W G 22 #[.slice (some ⟨bA, 0, none⟩) lA.length cA, .slice (some ⟨bB, 0, none⟩) lB.length cB]) (h1 : Blk W bA 3 csA) (h2 : Blk W bB 3 csB)
    (k1 : ∀ i, i < lA.length → csA[i]? = some (.int .i64 ((lA.getD i 0 : Nat) : Int))) (k2 : ∀ i, i < lB.length → csB[i]? = some (.int .i64 ((lB.getD i 0 : Nat) : Int))) :
    Calls Try.prog 24 #[.slice (some ⟨G, 0, none⟩) 2 cap] W fun e w' => ∃ g cp, e = .returned (.slice (some ⟨g, 0, none⟩) (lA ++ lB).length cp) ∧ W.heap.size ≤ g ∧ (∃ cs, Blk w' g 3 cs ∧ ∀ i, i < (lA ++ lB).length → cs[i]? = some (.int .i64 (((lA ++ lB).getD i 0 : Nat) : Int))) ∧ Below W.heap.size W w' := by
  have ht : totN (fun j => if j = 0 then lA.length else lB.length) 2 = (lA ++ lB).length := by
    show 0 + lA.length + lB.length = _
    rw [List.length_append]; omega
  have hc := concat2_any 2 (by decide) (by decide) (fun j => if j = 0 then lA.length else lB.length) (fun j => if j = 0 then bA else bB) (fun j => if j = 0 then cA else cB) (fun j i => ((if j = 0 then lA.getD i 0 else lB.getD i 0 : Nat) : Int)) (fun i => (((lA ++ lB).getD i 0 : Nat) : Int))
    (fun j _ => by (try dsimp only); split <;> omega) (fun j hj i hi => by
      try dsimp only at hi ⊢
      by_cases e : j = 0
      · subst e
        rw [if_pos rfl] at hi ⊢
        have : totN (fun j => if j = 0 then lA.length else lB.length) 0 = 0 := rfl
        rw [this, Nat.zero_add, List.getD_eq_getElem?_getD, List.getElem?_append_left hi, ← List.getD_eq_getElem?_getD]
      · rw [if_neg e] at hi ⊢
        have : j = 1 := by omega
        subst this
        have : totN (fun j => if j = 0 then lA.length else lB.length) 1 = lA.length := by show 0 + lA.length = _; omega
        rw [this, List.getD_eq_getElem?_getD, List.getElem?_append_right (by omega), ← List.getD_eq_getElem?_getD, Nat.add_sub_cancel_left])
    (by rw [ht, List.length_append]; omega) G 0 cap W h.lt (fun j hj => by
      try dsimp only
      rw [Nat.zero_add]
      refine (Blk.cell h j).trans ?_
      by_cases e : j = 0
      · subst e; rfl
      · have : j = 1 := by omega
        subst this; rfl) (fun j hj => by
      try dsimp only
      by_cases e : j = 0
      · subst e
        exact .inr ⟨bA, 0, rfl, h1.lt, fun i hi => by rw [Nat.zero_add]; exact (Blk.cell h1 i).trans (k1 i hi)⟩
      · rw [if_neg e, if_neg e]
        simp only [if_neg e]
        exact .inr ⟨bB, 0, rfl, h2.lt, fun i hi => by rw [Nat.zero_add]; exact (Blk.cell h2 i).trans (k2 i hi)⟩)
  refine hc.mono ?_
  rintro e w' ⟨g, cp, rfl, ho, hb⟩
  rw [ht] at ho ⊢
  refine ⟨g, cp, rfl, (World.ownsRow.lt ho g rfl).1, ?_, hb⟩
  rcases ho.2 with ⟨h, _⟩ | ⟨g', cap', cur, h, _, hh, _, _, _, h6⟩
  · cases h
  · injection h with e1
    injection e1 with e1
    injection e1 with e1
    subst e1
    refine ⟨cur, hh, fun i hi => ?_⟩
    have h7 := icells_at (lA ++ lB).length (fun i => (((lA ++ lB).getD i 0 : Nat) : Int)) i hi
    rw [← h6, List.getElem?_take, if_pos (by omega)] at h7
    simpa using h7
theorem rowv_mono {w : World} {B B' : Nat} {v : Value} {Xs : List Pr} (h : RowV w B v Xs) (hB : B' ≤ B) : RowV w B' v Xs := by
  rcases h with h | ⟨g, cap, h1, h2, h3, h4⟩
  · exact .inl h
  · exact .inr ⟨g, cap, h1, h2, by omega, h4⟩
/-- The next row out of the coins and the pairs. -/
theorem next_row {A : List It} (hA : Srt ik A) {k : Nat} {w : World} {B : Nat} {ZA Zn : List Zt} (h1 : snds ZA = A) (h2 : snds Zn = pairs (rowN A k)) (hs : SyL w B (ZA ++ Zn)) : snds (isort kz (ZA ++ Zn)) = rowN A (k + 1) := by
  rw [← sort_snd hs, snds_app, isort_app, h1, h2, srt_isort ik A hA, srt_isort ik _ (pairs_srt _ _ (Nat.le_refl _) (rowN_srt A hA k)).1]
  rfl
theorem kl_next {A : List It} (hA : ∀ x ∈ A, 0 < x.k ∧ x.k ≤ 1000000 ∧ x.l.length = 1) {k : Nat} (hk : k ≤ 14) {w : World} {B : Nat} {ZA Zn : List Zt} (h1 : snds ZA = A) (h2 : snds Zn = pairs (rowN A k)) (hs : SyL w B (ZA ++ Zn)) : KL (fsts (ZA ++ Zn)) := by
  intro x hx
  obtain ⟨z, hz, rfl⟩ := List.mem_map.1 hx
  have hin : z.2 ∈ rowN A (k + 1) := by
    refine (mem_mrg ik _ _ _).2 ?_
    rcases List.mem_append.1 hz with h | h
    · exact .inl (by rw [← h1]; exact List.mem_map_of_mem h)
    · exact .inr (by rw [← h2]; exact List.mem_map_of_mem h)
  have hp := rowN_pos A (fun x hx => (hA x hx).1) (k + 1) _ hin
  have hl := (rowN_lim A 1000000 (by decide) (fun x hx => (hA x hx).2) (k + 1) _ hin).1
  have hpw : ((2 : Int) ^ (k + 1)) ≤ 32768 := by
    have e : ((2 : Int) ^ (k + 1)) = ((2 ^ (k + 1) : Nat) : Int) := by simp
    have : 2 ^ (k + 1) ≤ 2 ^ 15 := Nat.pow_le_pow_right (by decide) (by omega)
    rw [e]; omega
  have hek := (hs z hz).1
  show -1000000000000000 ≤ z.1.k ∧ z.1.k ≤ 1000000000000000
  rw [hek]
  generalize (2 : Int) ^ (k + 1) = y at *
  omega
theorem rowN_sym (A : List It) (P : Nat → Prop) (hA : ∀ x ∈ A, ∀ t ∈ x.l, P t) : ∀ k, ∀ x ∈ rowN A k, ∀ t ∈ x.l, P t := by
  have key : ∀ (n : Nat) (R : List It), R.length ≤ n → (∀ x ∈ R, ∀ t ∈ x.l, P t) → ∀ x ∈ pairs R, ∀ t ∈ x.l, P t := by
    intro n
    induction n using Nat.strongRecOn with
    | ind n ih =>
      intro R h hR x hx t ht
      match R, h, hR, hx with
      | a :: b :: R, h, hR, hx =>
        simp only [List.length_cons] at h
        rcases List.mem_cons.1 hx with rfl | hx
        · rcases List.mem_append.1 ht with h1 | h1
          · exact hR a (List.mem_cons_self ..) t h1
          · exact hR b (by simp) t h1
        · exact ih R.length (by omega) R (Nat.le_refl _) (fun y hy => hR y (by simp [hy])) x hx t ht
  intro k
  induction k with
  | zero => intro x hx; cases hx
  | succ k ih =>
    intro x hx
    rcases (mem_mrg ik _ _ x).1 hx with h | h
    · exact hA x h
    · exact key _ _ (Nat.le_refl _) ih x h
theorem syms_len (R : List It) (B : Nat) (h : ∀ x ∈ R, x.l.length ≤ B) : (syms R).length ≤ B * R.length := by
  induction R with
  | nil => exact Nat.zero_le _
  | cons a R ih =>
    show (a.l ++ syms R).length ≤ B * (R.length + 1)
    rw [List.length_append, Nat.mul_succ]
    have := h a (List.mem_cons_self ..)
    have := ih fun x hx => h x (List.mem_cons_of_mem _ hx)
    omega
/-- The cells of counts. -/
def cntC (S : List Nat) (t : Nat) : Value := .int .i64 ((S.count t : Nat) : Int)
theorem cntC_add (s : Nat) (S : List Nat) (y : Nat) : (fcells s (cntC S)).setIfInBounds y (.int .i64 ((S.count y + 1 : Nat) : Int)) = fcells s (cntC (S ++ [y])) := by
  rw [fcells_set]
  refine fcells_congr _ _ _ fun i _ => ?_
  unfold cntC
  rw [List.count_append]
  by_cases e : i = y
  · subst e
    rw [if_pos rfl]
    simp
  · rw [if_neg e]
    have : [y].count i = 0 := by rw [List.count_eq_zero]; simp; exact e
    rw [this]
    rfl
theorem grown_below {w w1 w2 : World} {r : Option Nat} (h : w.grownBy w1 r) (hb : Below w1.heap.size w1 w2) : w.grownBy w2 r :=
  ⟨hb.os.trans h.os, hb.tape.trans h.tape, hb.output.trans h.output, Nat.le_trans h.size hb.size, fun b hb1 hr => (hb.block b (Nat.lt_of_lt_of_le hb1 h.size)).trans (h.block b hb1 hr)⟩
theorem grown_set {w w1 : World} {O : Nat} (h : w.grownBy w1 (some O)) (i : Nat) (u : Value) : w.grownBy (w1.setCell ⟨O, i, none⟩ u) (some O) := Ch1.set h i u
theorem keepI_O {B O : Nat} {w w1 : World} (h : w.grownBy w1 (some O)) (hO : O < B) : KeepI B w w1 := fun b hb _ hc => Blk.grown hc h (fun e => by injection e; omega)
theorem rows_enough (A : List It) (k : Nat) (hk : 1 ≤ k) (hN : A.length ≤ 2 ^ k) : 2 * A.length - 2 ≤ (rowN A k).length := by
  by_cases h0 : A.length = 0
  · omega
  · obtain ⟨kk, rfl⟩ : ∃ kk, k = kk + 1 := ⟨k - 1, by omega⟩
    have hen := rowN_enough A (by omega) kk
    have h3 : (A.length - 1) / 2 ^ kk ≤ 1 := by
      have : (A.length - 1) / 2 ^ kk < 2 := by
        rw [Nat.div_lt_iff_lt_mul (Nat.pow_pos (by decide))]
        have e : 2 ^ (kk + 1) = 2 * 2 ^ kk := by rw [Nat.pow_succ, Nat.mul_comm]
        omega
      omega
    omega
theorem fin_nums (N : Nat) (h : N ≤ 400) : ∃ (N2 P : Nat) (X : Int), IntKind.i64.wrap (2 * (N : Int)) = (N2 : Int) ∧ IntKind.i64.wrap ((N2 : Int) - 2) = X ∧ P = 2 * N - 2 ∧
    ∀ W, Sem.run Try.prog (Builtin.max_ #[3, 3] 3 #[.int .i64 X, .int .i64 0]) W = .ok (.int .i64 (P : Int)) W := by
  refine ⟨2 * N, 2 * N - 2, ((2 * N : Nat) : Int) - 2, by rw [IntKind.wrap_i64]; omega, by rw [IntKind.wrap_i64]; omega, rfl, fun W => ?_⟩
  have e : (if (0 : Int) > ((2 * N : Nat) : Int) - 2 then 0 else ((2 * N : Nat) : Int) - 2) = ((2 * N - 2 : Nat) : Int) := by split <;> omega
  show Result.ok (Value.int .i64 (if (0 : Int) > ((2 * N : Nat) : Int) - 2 then 0 else ((2 * N : Nat) : Int) - 2)) W = _
  rw [e]
theorem rowv_none {w : World} {B L rc : Nat} {a : Option Addr} {Zr : List Zt} (h : RowV w B (.slice a L rc) (fsts Zr)) (ha : a = none) : L = 0 ∧ rc = 0 := by
  rcases h with ⟨h1, h2⟩ | ⟨g, cap', h1, _⟩
  · injection h1 with h1 h3 h4
    exact ⟨h3, h4⟩
  · injection h1 with h1
    rw [ha] at h1; cases h1
theorem below_newd {w w1 : World} {o : Obj} (h : Below (w.alloc o).drew.heap.size (w.alloc o).drew w1) : Below w.heap.size w w1 :=
  (((Below.refl w.heap.size w).alloc (Nat.le_refl _) o).drew).trans (h.mono (size_le_new w o))
theorem size_le_newd (w : World) (o : Obj) : w.heap.size ≤ (w.alloc o).drew.heap.size := size_le_new w o
end Go.Proofs.Ytahgeeklenojjaa
