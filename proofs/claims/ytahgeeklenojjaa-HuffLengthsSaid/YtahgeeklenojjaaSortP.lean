/- Stable merging and sorting by a key: plain. Conditions: none. -/
namespace Go.Proofs.Ytahgeeklenojjaa

/-- Rows by a key, lower ones first, level ones of the first row first. -/
def mrg {α : Type} (w : α → Int) : List α → List α → List α
  | [], r => r
  | a :: l, [] => a :: l
  | a :: l, b :: r => if w b < w a then b :: mrg w (a :: l) r else a :: mrg w l (b :: r)
termination_by l r => l.length + r.length
section
variable {α : Type} (w : α → Int)
theorem mrg_nil (l : List α) : mrg w [] l = l := by unfold mrg; rfl
theorem mrg_nil' (l : List α) : mrg w l [] = l := by cases l <;> unfold mrg <;> rfl
theorem mrg_cons (a b : α) (l r : List α) : mrg w (a :: l) (b :: r) = if w b < w a then b :: mrg w (a :: l) r else a :: mrg w l (b :: r) := by rw [mrg]
theorem mrg_assoc : ∀ (n : Nat) (a b c : List α), a.length + b.length + c.length ≤ n → mrg w (mrg w a b) c = mrg w a (mrg w b c) := by
  intro n
  induction n with
  | zero =>
    intro a b c h
    have : a = [] := List.eq_nil_of_length_eq_zero (by omega)
    subst this
    rw [mrg_nil, mrg_nil]
  | succ n ih =>
    intro a b c h
    cases a with
    | nil => rw [mrg_nil, mrg_nil]
    | cons x l =>
      cases b with
      | nil => rw [mrg_nil', mrg_nil]
      | cons y r =>
        cases c with
        | nil => rw [mrg_nil', mrg_nil']
        | cons z s =>
          simp only [List.length_cons] at h
          rw [mrg_cons w x y l r, mrg_cons w y z r s]
          by_cases h1 : w y < w x
          · rw [if_pos h1]
            by_cases h2 : w z < w y
            · rw [if_pos h2, mrg_cons w y z, if_pos h2, mrg_cons w x z, if_pos (by omega)]
              have := ih (x :: l) (y :: r) s (by simp only [List.length_cons]; omega)
              rw [mrg_cons w x y l r, if_pos h1] at this
              rw [this]
            · rw [if_neg h2, mrg_cons w y z, if_neg h2, mrg_cons w x y, if_pos h1]
              rw [ih (x :: l) r (z :: s) (by simp only [List.length_cons]; omega)]
          · rw [if_neg h1]
            by_cases h2 : w z < w y
            · rw [if_pos h2]
              by_cases h3 : w z < w x
              · rw [mrg_cons w x z, if_pos h3, mrg_cons w x z, if_pos h3]
                have := ih (x :: l) (y :: r) s (by simp only [List.length_cons]; omega)
                rw [mrg_cons w x y l r, if_neg h1] at this
                rw [this]
              · rw [mrg_cons w x z, if_neg h3, mrg_cons w x z, if_neg h3]
                have := ih l (y :: r) (z :: s) (by simp only [List.length_cons]; omega)
                rw [mrg_cons w y z r s, if_pos h2] at this
                rw [this]
            · rw [if_neg h2, mrg_cons w x z, if_neg (by omega), mrg_cons w x y, if_neg h1]
              have := ih l (y :: r) (z :: s) (by simp only [List.length_cons]; omega)
              rw [mrg_cons w y z r s, if_neg h2] at this
              rw [this]
theorem mrg_perm : ∀ (n : Nat) (a b : List α), a.length + b.length ≤ n → List.Perm (mrg w a b) (a ++ b) := by
  intro n
  induction n with
  | zero =>
    intro a b h
    have : a = [] := List.eq_nil_of_length_eq_zero (by omega)
    subst this
    rw [mrg_nil]; exact List.Perm.refl _
  | succ n ih =>
    intro a b h
    cases a with
    | nil => rw [mrg_nil]; exact List.Perm.refl _
    | cons x l =>
      cases b with
      | nil => rw [mrg_nil', List.append_nil]
      | cons y r =>
        simp only [List.length_cons] at h
        rw [mrg_cons]
        split
        · refine ((ih (x :: l) r (by simp only [List.length_cons]; omega)).cons y).trans ?_
          exact (List.perm_middle (a := y) (l₁ := x :: l) (l₂ := r)).symm
        · exact (ih l (y :: r) (by simp only [List.length_cons]; omega)).cons x
theorem mrg_len (a b : List α) : (mrg w a b).length = a.length + b.length := by
  rw [(mrg_perm w _ a b (Nat.le_refl _)).length_eq, List.length_append]
theorem mem_mrg (a b : List α) (x : α) : x ∈ mrg w a b ↔ x ∈ a ∨ x ∈ b := by
  rw [(mrg_perm w _ a b (Nat.le_refl _)).mem_iff, List.mem_append]
/-- In order. -/
def Srt (l : List α) : Prop := l.Pairwise fun a b => w a ≤ w b
theorem mrg_srt : ∀ (n : Nat) (a b : List α), a.length + b.length ≤ n → Srt w a → Srt w b → Srt w (mrg w a b) := by
  intro n
  induction n with
  | zero =>
    intro a b h ha hb
    have : a = [] := List.eq_nil_of_length_eq_zero (by omega)
    subst this
    rw [mrg_nil]; exact hb
  | succ n ih =>
    intro a b h ha hb
    cases a with
    | nil => rw [mrg_nil]; exact hb
    | cons x l =>
      cases b with
      | nil => rw [mrg_nil']; exact ha
      | cons y r =>
        simp only [List.length_cons] at h
        have ha' := List.pairwise_cons.1 ha
        have hb' := List.pairwise_cons.1 hb
        rw [mrg_cons]
        split
        · refine List.pairwise_cons.2 ⟨fun z hz => ?_, ih _ _ (by simp only [List.length_cons]; omega) ha hb'.2⟩
          rcases (mem_mrg w _ _ z).1 hz with h1 | h1
          · rcases List.mem_cons.1 h1 with rfl | h1
            · omega
            · have := ha'.1 z h1; omega
          · exact hb'.1 z h1
        · refine List.pairwise_cons.2 ⟨fun z hz => ?_, ih _ _ (by simp only [List.length_cons]; omega) ha'.2 hb⟩
          rcases (mem_mrg w _ _ z).1 hz with h1 | h1
          · exact ha'.1 z h1
          · rcases List.mem_cons.1 h1 with rfl | h1
            · omega
            · have := hb'.1 z h1; omega
/-- The first row's low part takes the second one's low part with it. -/
theorem mrg_split : ∀ (n : Nat) (l1 l2 r1 r2 : List α), l1.length + r1.length ≤ n → (∀ x ∈ l2, ∀ y ∈ r1, w y < w x) → (∀ x ∈ l1, ∀ y ∈ r2, w x ≤ w y) → mrg w (l1 ++ l2) (r1 ++ r2) = mrg w l1 r1 ++ mrg w l2 r2 := by
  intro n
  induction n with
  | zero =>
    intro l1 l2 r1 r2 h _ _
    have e1 : l1 = [] := List.eq_nil_of_length_eq_zero (by omega)
    have e2 : r1 = [] := List.eq_nil_of_length_eq_zero (by omega)
    subst e1 e2
    rw [mrg_nil]; rfl
  | succ n ih =>
    intro l1 l2 r1 r2 h h1 h2
    cases l1 with
    | nil =>
      cases r1 with
      | nil => rw [mrg_nil]; rfl
      | cons y r1 =>
        rw [mrg_nil, List.nil_append]
        have hy : ∀ x ∈ l2, w y < w x := fun x hx => h1 x hx y (List.mem_cons_self ..)
        have := ih [] l2 r1 r2 (by simp only [List.length_cons, List.length_nil] at h ⊢; omega) (fun x hx z hz => h1 x hx z (List.mem_cons_of_mem _ hz)) (fun x hx => by cases hx)
        rw [mrg_nil, List.nil_append] at this
        cases l2 with
        | nil => rw [mrg_nil, mrg_nil]
        | cons x l2 =>
          rw [List.cons_append, mrg_cons, if_pos (hy x (List.mem_cons_self ..)), this]; rfl
    | cons x l1 =>
      cases r1 with
      | nil =>
        rw [mrg_nil', List.nil_append]
        have := ih l1 l2 [] r2 (by simp only [List.length_cons, List.length_nil] at h ⊢; omega) (fun x hx z hz => by cases hz) (fun z hz => h2 z (List.mem_cons_of_mem _ hz))
        rw [mrg_nil', List.nil_append] at this
        cases r2 with
        | nil => rw [mrg_nil', mrg_nil']
        | cons y r2 =>
          have hxy := h2 x (List.mem_cons_self ..) y (List.mem_cons_self ..)
          rw [List.cons_append, mrg_cons, if_neg (by omega), this]; rfl
      | cons y r1 =>
        simp only [List.length_cons] at h
        rw [List.cons_append, List.cons_append, mrg_cons, mrg_cons]
        split
        · have := ih (x :: l1) l2 r1 r2 (by simp only [List.length_cons]; omega) (fun x hx z hz => h1 x hx z (List.mem_cons_of_mem _ hz)) h2
          rw [List.cons_append] at this
          rw [this]; rfl
        · have := ih l1 l2 (y :: r1) r2 (by simp only [List.length_cons]; omega) h1 (fun z hz => h2 z (List.mem_cons_of_mem _ hz))
          rw [List.cons_append] at this
          rw [this]; rfl
/-- Sorted, one by one. -/
def isort (l : List α) : List α := l.foldl (fun acc x => mrg w acc [x]) []
theorem isort_nil : isort w [] = [] := rfl
theorem isort_snoc (l : List α) (x : α) : isort w (l ++ [x]) = mrg w (isort w l) [x] := by unfold isort; rw [List.foldl_append]; rfl
theorem isort_app (a b : List α) : isort w (a ++ b) = mrg w (isort w a) (isort w b) := by
  have key : ∀ (n : Nat) (b : List α), b.length = n → isort w (a ++ b) = mrg w (isort w a) (isort w b) := by
    intro n
    induction n with
    | zero =>
      intro b h
      have : b = [] := List.eq_nil_of_length_eq_zero h
      subst this
      rw [List.append_nil, isort_nil, mrg_nil']
    | succ n ih =>
      intro b h
      have hne : b ≠ [] := by intro e; subst e; simp at h
      obtain ⟨c, x, rfl⟩ : ∃ c x, b = c ++ [x] := ⟨b.dropLast, b.getLast hne, (List.dropLast_concat_getLast hne).symm⟩
      rw [List.length_append] at h
      simp only [List.length_cons, List.length_nil] at h
      rw [← List.append_assoc, isort_snoc, ih c (by omega), isort_snoc, mrg_assoc w _ _ _ _ (Nat.le_refl _)]
  exact key _ b rfl
theorem isort_perm (l : List α) : List.Perm (isort w l) l := by
  have key : ∀ (n : Nat) (b : List α), b.length = n → List.Perm (isort w b) b := by
    intro n
    induction n with
    | zero =>
      intro b h
      have : b = [] := List.eq_nil_of_length_eq_zero h
      subst this
      exact List.Perm.refl _
    | succ n ih =>
      intro b h
      have hne : b ≠ [] := by intro e; subst e; simp at h
      obtain ⟨c, x, rfl⟩ : ∃ c x, b = c ++ [x] := ⟨b.dropLast, b.getLast hne, (List.dropLast_concat_getLast hne).symm⟩
      rw [List.length_append] at h
      simp only [List.length_cons, List.length_nil] at h
      rw [isort_snoc]
      exact (mrg_perm w _ _ _ (Nat.le_refl _)).trans ((ih c (by omega)).append (List.Perm.refl _))
  exact key _ l rfl
theorem isort_srt (l : List α) : Srt w (isort w l) := by
  have key : ∀ (n : Nat) (b : List α), b.length = n → Srt w (isort w b) := by
    intro n
    induction n with
    | zero =>
      intro b h
      have : b = [] := List.eq_nil_of_length_eq_zero h
      subst this
      exact List.Pairwise.nil
    | succ n ih =>
      intro b h
      have hne : b ≠ [] := by intro e; subst e; simp at h
      obtain ⟨c, x, rfl⟩ : ∃ c x, b = c ++ [x] := ⟨b.dropLast, b.getLast hne, (List.dropLast_concat_getLast hne).symm⟩
      rw [List.length_append] at h
      simp only [List.length_cons, List.length_nil] at h
      rw [isort_snoc]
      exact mrg_srt w _ _ _ (Nat.le_refl _) (ih c (by omega)) (List.pairwise_cons.2 ⟨fun z hz => (by cases hz), List.Pairwise.nil⟩)
  exact key _ l rfl
theorem mrg_single (l1 l2 : List α) (x : α) (h1 : ∀ y ∈ l1, w y ≤ w x) (h2 : ∀ y ∈ l2, w x < w y) : mrg w (l1 ++ l2) [x] = l1 ++ x :: l2 := by
  have e : mrg w (l1 ++ l2) ([] ++ [x]) = mrg w l1 [] ++ mrg w l2 [x] := mrg_split w _ l1 l2 [] [x] (Nat.le_refl _) (fun _ _ y hy => by cases hy) (fun y hy z hz => by
    rcases List.mem_cons.1 hz with rfl | hz
    · exact h1 y hy
    · cases hz)
  rw [List.nil_append, mrg_nil'] at e
  rw [e]
  congr 1
  cases l2 with
  | nil => rw [mrg_nil]
  | cons y r => rw [mrg_cons, if_pos (h2 y (List.mem_cons_self ..)), mrg_nil']
theorem single_mrg (r1 r2 : List α) (x : α) (h1 : ∀ y ∈ r1, w y < w x) (h2 : ∀ y ∈ r2, w x ≤ w y) : mrg w [x] (r1 ++ r2) = r1 ++ x :: r2 := by
  have e : mrg w ([] ++ [x]) (r1 ++ r2) = mrg w [] r1 ++ mrg w [x] r2 := mrg_split w _ [] [x] r1 r2 (Nat.le_refl _) (fun y hy z hz => by
    rcases List.mem_cons.1 hy with rfl | hy
    · exact h1 z hz
    · cases hy) (fun _ hy => by cases hy)
  rw [List.nil_append, mrg_nil] at e
  rw [e]
  congr 1
  cases r2 with
  | nil => rw [mrg_nil']
  | cons y r => rw [mrg_cons, if_neg (by have := h2 y (List.mem_cons_self ..); omega), mrg_nil]
theorem srt_isort : ∀ (l : List α), Srt w l → isort w l = l := by
  intro l h
  have key : ∀ (n : Nat) (b : List α), b.length = n → Srt w b → isort w b = b := by
    intro n
    induction n with
    | zero =>
      intro b h _
      have : b = [] := List.eq_nil_of_length_eq_zero h
      subst this
      rfl
    | succ n ih =>
      intro b h hs
      have hne : b ≠ [] := by intro e; subst e; simp at h
      obtain ⟨c, x, rfl⟩ : ∃ c x, b = c ++ [x] := ⟨b.dropLast, b.getLast hne, (List.dropLast_concat_getLast hne).symm⟩
      rw [List.length_append] at h
      simp only [List.length_cons, List.length_nil] at h
      have hs' := List.pairwise_append.1 hs
      rw [isort_snoc, ih c (by omega) hs'.1]
      have := mrg_single w c [] x (fun y hy => hs'.2.2 y hy x (List.mem_cons_self ..)) (fun y hy => by cases hy)
      rw [List.append_nil] at this
      exact this
  exact key _ l rfl h

/-- A stretch of a row. -/
def seg (f : Nat → α) (a b : Nat) : List α := (List.range (b - a)).map fun k => f (a + k)
theorem seg_len (f : Nat → α) (a b : Nat) : (seg f a b).length = b - a := by simp [seg]
theorem seg_get (f : Nat → α) (a b k : Nat) (h : k < b - a) : (seg f a b)[k]? = some (f (a + k)) := by simp [seg, h]
theorem seg_app (f : Nat → α) (a m b : Nat) (h1 : a ≤ m) (h2 : m ≤ b) : seg f a b = seg f a m ++ seg f m b := by
  unfold seg
  rw [show b - a = (m - a) + (b - m) by omega, List.range_add, List.map_append, List.map_map]
  congr 1
  apply List.map_congr_left
  intro k _
  show f (a + (m - a + k)) = f (m + k)
  congr 1
  omega
theorem seg_like (f g : Nat → α) (a b c d : Nat) (hl : b - a = d - c) (h : ∀ k, k < b - a → f (a + k) = g (c + k)) : seg f a b = seg g c d := by
  unfold seg
  rw [← hl]
  apply List.map_congr_left
  intro k hk
  exact h k (List.mem_range.1 hk)
theorem seg_one (f : Nat → α) (a : Nat) : seg f a (a + 1) = [f a] := by
  unfold seg
  rw [show a + 1 - a = 1 by omega]
  rfl
theorem seg_self (f : Nat → α) (a b : Nat) (h : b ≤ a) : seg f a b = [] := by
  unfold seg
  rw [show b - a = 0 by omega]
  rfl
theorem mem_seg (f : Nat → α) (a b : Nat) (x : α) (h : x ∈ seg f a b) : ∃ p, a ≤ p ∧ p < b ∧ x = f p := by
  unfold seg at h
  obtain ⟨k, hk, rfl⟩ := List.mem_map.1 h
  have := List.mem_range.1 hk
  exact ⟨a + k, by omega, by omega, rfl⟩
theorem seg_srt (f : Nat → α) (a b : Nat) : Srt w (seg f a b) ↔ ∀ p q, a ≤ p → p < q → q < b → w (f p) ≤ w (f q) := by
  constructor
  · intro h p q h1 h2 h3
    have e1 := seg_get f a b (p - a) (by omega)
    have e2 := seg_get f a b (q - a) (by omega)
    rw [show a + (p - a) = p by omega] at e1
    rw [show a + (q - a) = q by omega] at e2
    have hl := seg_len f a b
    have := (List.pairwise_iff_getElem.1 h) (p - a) (q - a) (by omega) (by omega) (by omega)
    rw [List.getElem?_eq_getElem (by omega)] at e1 e2
    injection e1 with e1
    injection e2 with e2
    rw [e1, e2] at this
    exact this
  · intro h
    refine List.pairwise_iff_getElem.2 fun i j hi hj hij => ?_
    have hl := seg_len f a b
    have e1 := seg_get f a b i (by omega)
    have e2 := seg_get f a b j (by omega)
    rw [List.getElem?_eq_getElem (by omega)] at e1 e2
    injection e1 with e1
    injection e2 with e2
    rw [e1, e2]
    exact h _ _ (by omega) (by omega) (by omega)

/-- Two places change their things. -/
def sw (f : Nat → α) (i j : Nat) : Nat → α := fun p => if p = i then f j else if p = j then f i else f p
/-- The thing at i stands at j, those from j on one place further. -/
def mvL (f : Nat → α) (i j : Nat) : Nat → α := fun p => if p = j then f i else if j < p ∧ p ≤ i then f (p - 1) else f p
theorem mvL_same (f : Nat → α) (i : Nat) : mvL f i i = f := by
  funext p
  unfold mvL
  (repeat' split) <;> first | (exfalso; omega) | rfl | (congr 1; omega) | (congr 1)
theorem mvL_sw (f : Nat → α) (i j : Nat) (h : j < i) : sw (mvL f i (j + 1)) (j + 1) j = mvL f i j := by
  funext p
  unfold sw mvL
  (repeat' split) <;> first | (exfalso; omega) | rfl | (congr 1; omega) | (congr 1)
/-- The thing at i stands at j behind, those up to j one place ahead. -/
def mvR (f : Nat → α) (i j : Nat) : Nat → α := fun p => if p = j then f i else if i ≤ p ∧ p < j then f (p + 1) else f p
theorem mvR_same (f : Nat → α) (i : Nat) : mvR f i i = f := by
  funext p
  unfold mvR
  (repeat' split) <;> first | (exfalso; omega) | rfl | (congr 1; omega) | (congr 1)
theorem mvR_sw (f : Nat → α) (i j : Nat) (h : i ≤ j) : sw (mvR f i j) j (j + 1) = mvR f i (j + 1) := by
  funext p
  unfold sw mvR
  (repeat' split) <;> first | (exfalso; omega) | rfl | (congr 1; omega) | (congr 1)
/-- The second part of a stretch stands ahead of the first. -/
def rot (f : Nat → α) (a m b : Nat) : Nat → α := fun p => if a ≤ p ∧ p < a + (b - m) then f (p + (m - a)) else if a + (b - m) ≤ p ∧ p < b then f (p - (b - m)) else f p
/-- n things from i and from j change their places. -/
def swN (f : Nat → α) (i j n : Nat) : Nat → α := fun p => if i ≤ p ∧ p < i + n then f (p - i + j) else if j ≤ p ∧ p < j + n then f (p - j + i) else f p
theorem swN_zero (f : Nat → α) (i j : Nat) : swN f i j 0 = f := by
  funext p
  unfold swN
  (repeat' split) <;> first | (exfalso; omega) | rfl | (congr 1; omega) | (congr 1)
theorem swN_succ (f : Nat → α) (i j n : Nat) (h : i + n < j) : sw (swN f i j n) (i + n) (j + n) = swN f i j (n + 1) := by
  funext p
  unfold sw swN
  (repeat' split) <;> first | (exfalso; omega) | rfl | (congr 1; omega) | (congr 1)
/-- Rotating parts of one length is one exchange. -/
theorem rot_even (f : Nat → α) (m i : Nat) (h : i ≤ m) : swN f (m - i) m i = rot f (m - i) m (m + i) := by
  funext p
  unfold swN rot
  (repeat' split) <;> first | (exfalso; omega) | rfl | (congr 1; omega) | (congr 1)
theorem rot_left (f : Nat → α) (m i j : Nat) (h : i ≤ m) (hj : j < i) : rot (swN f (m - i) m j) (m - (i - j)) m (m + j) = rot f (m - i) m (m + j) := by
  funext p
  unfold rot swN
  (repeat' split) <;> first | (exfalso; omega) | rfl | (congr 1; omega) | (congr 1)
theorem rot_right (f : Nat → α) (m i j : Nat) (h : i ≤ m) (hj : i < j) : rot (swN f (m - i) (m + j - i) i) (m - i) m (m + (j - i)) = rot f (m - i) m (m + j) := by
  funext p
  unfold rot swN
  (repeat' split) <;> first | (exfalso; omega) | rfl | (congr 1; omega) | (congr 1)
end
end Go.Proofs.Ytahgeeklenojjaa
