/- The chunks of a text, in plain Lean: what they are, and that there are no others. Conditions: none. -/
import Derived.Test.YtgjofpefglbjjaaChunkP
namespace Go.Proofs.Ytgjofpefglbjjaa
open Go.RowKit

/-- L are the chunks of the text t behind the bytes h, by the ends E. -/
def CK (E : List UInt8 → Nat → Bool) : List UInt8 → List (List UInt8) → List UInt8 → Prop
  | _, [], t => t = []
  | h, x :: r, t => x ≠ [] ∧ ∃ u, t = x ++ u ∧ (∀ i, 1 ≤ i → i < x.length → E (h ++ x.take i) i = false) ∧ (u ≠ [] → E (h ++ x) x.length = true) ∧ CK E (h ++ x) r u

theorem crun_pre (mn b mx : Nat) (h g : List UInt8) (o : List (List UInt8)) (l : List UInt8) :
    crun mn b mx ⟨h, g, o⟩ l = ⟨(crun mn b mx ⟨h, g, []⟩ l).hist, (crun mn b mx ⟨h, g, []⟩ l).begun, o ++ (crun mn b mx ⟨h, g, []⟩ l).out⟩ := by
  induction l generalizing h g o with
  | nil => simp [crun]
  | cons c r ih =>
    show crun mn b mx (cstep mn b mx ⟨h, g, o⟩ c) r = _
    have e : crun mn b mx ⟨h, g, []⟩ (c :: r) = crun mn b mx (cstep mn b mx ⟨h, g, []⟩ c) r := rfl
    rw [e]
    unfold cstep
    by_cases hc : cend mn b mx (h ++ [c]) (g.length + 1) = true
    · rw [if_pos hc, if_pos hc, ih, ih _ _ ([] ++ [g ++ [c]])]
      simp
    · rw [if_neg hc, if_neg hc, ih]

def cfin (S : CS) : List (List UInt8) := S.out ++ rest1 S.begun
theorem ck_run (mn b mx : Nat) (l h g : List UInt8) (hg : ∀ i, 1 ≤ i → i ≤ g.length → cend mn b mx (h ++ g.take i) i = false) :
    CK (cend mn b mx) h (cfin (crun mn b mx ⟨h ++ g, g, []⟩ l)) (g ++ l) := by
  induction l generalizing h g with
  | nil =>
    rw [crun_nil, List.append_nil]
    unfold cfin rest1
    by_cases h0 : g = []
    · rw [if_pos h0]; exact h0
    · rw [if_neg h0]
      exact ⟨h0, [], by simp, fun i h1 h2 => hg i h1 (Nat.le_of_lt h2), fun e => absurd rfl e, rfl⟩
  | cons c r ih =>
    have e0 : crun mn b mx ⟨h ++ g, g, []⟩ (c :: r) = crun mn b mx (cstep mn b mx ⟨h ++ g, g, []⟩ c) r := rfl
    rw [e0]
    unfold cstep
    by_cases hc : cend mn b mx (h ++ g ++ [c]) (g.length + 1) = true
    · rw [if_pos hc, crun_pre]
      have := ih (h ++ (g ++ [c])) [] (fun i h1 h2 => by simp at h2; omega)
      rw [List.append_nil, List.nil_append] at this
      refine ⟨by simp, r, by simp, fun i h1 h2 => ?_, fun _ => ?_, ?_⟩
      · change i < (g ++ [c]).length at h2
        change cend mn b mx (h ++ (g ++ [c]).take i) i = false
        rw [List.length_append, List.length_singleton] at h2
        rw [List.take_append_of_le_length (by omega)]
        exact hg i h1 (by omega)
      · rw [← List.append_assoc, List.length_append, List.length_singleton]; exact hc
      · rw [List.append_assoc]
        exact this
    · rw [if_neg hc]
      have := ih h (g ++ [c]) (fun i h1 h2 => by
        rw [List.length_append, List.length_singleton] at h2
        by_cases hi : i ≤ g.length
        · rw [List.take_append_of_le_length hi]; exact hg i h1 hi
        · have : i = g.length + 1 := by omega
          subst this
          rw [List.take_of_length_le (by simp), ← List.append_assoc]
          simpa using hc)
      rw [← List.append_assoc] at this
      have e2 : g ++ c :: r = g ++ [c] ++ r := by simp
      rw [e2]
      exact this
theorem ck_split (mn b mx : Nat) (l : List UInt8) : CK (cend mn b mx) [] (csplit mn b mx l) l := ck_run mn b mx l [] [] (fun i h1 h2 => by simp at h2; omega)

section
variable {E : List UInt8 → Nat → Bool} {h h' t t' : List UInt8} {L L' : List (List UInt8)}
theorem CK.flat (k : CK E h L t) : L.flatten = t := by
  induction L generalizing h t with
  | nil => exact k.symm
  | cons x r ih =>
    obtain ⟨_, u, rfl, _, _, k2⟩ := k
    rw [List.flatten_cons, ih k2]
theorem CK.pos (k : CK E h L t) (hL : L ≠ []) : t ≠ [] := by
  cases L with
  | nil => exact absurd rfl hL
  | cons x r =>
    obtain ⟨h1, u, rfl, _⟩ := k
    intro e
    exact h1 (List.append_eq_nil_iff.1 e).1
theorem app_cases {x u y v : List UInt8} (e : x ++ u = y ++ v) : (x = y ∧ u = v) ∨ (x.length < y.length ∧ x = y.take x.length ∧ u ≠ []) ∨ (y.length < x.length ∧ y = x.take y.length ∧ v ≠ []) := by
  rcases Nat.lt_trichotomy x.length y.length with hl | hl | hl
  · right; left
    refine ⟨hl, ?_, ?_⟩
    · have := congrArg (List.take x.length) e
      rw [List.take_left', List.take_append_of_le_length (by omega)] at this
      · exact this
      · rfl
    · rintro rfl
      have := congrArg List.length e
      simp at this
      omega
  · left
    exact List.append_inj e hl
  · right; right
    refine ⟨hl, ?_, ?_⟩
    · have := congrArg (List.take y.length) e.symm
      rw [List.take_left', List.take_append_of_le_length (by omega)] at this
      · exact this
      · rfl
    · rintro rfl
      have := congrArg List.length e
      simp at this
      omega
theorem CK.only (R : ∀ z i, E (h ++ z) i = E (h' ++ z) i) (k : CK E h L t) (k' : CK E h' L' t) : L = L' := by
  induction L generalizing h h' L' t with
  | nil =>
    cases L' with
    | nil => rfl
    | cons y s => exact absurd k (k'.pos (by simp))
  | cons x r ih =>
    cases L' with
    | nil => exact absurd k' (k.pos (by simp))
    | cons y s =>
      obtain ⟨hx, u, rfl, f1, g1, k1⟩ := k
      obtain ⟨hy, v, e, f2, g2, k2⟩ := k'
      have hxl : 1 ≤ x.length := by have := List.length_pos_iff.2 hx; omega
      have hyl : 1 ≤ y.length := by have := List.length_pos_iff.2 hy; omega
      rcases app_cases e with ⟨rfl, rfl⟩ | ⟨hl, ht, hu⟩ | ⟨hl, ht, hv⟩
      · rw [ih (fun z i => by rw [List.append_assoc, List.append_assoc]; exact R _ i) k1 k2]
      · have a := g1 hu
        have b := f2 x.length hxl hl
        rw [← ht, ← R, a] at b
        cases b
      · have a := g2 hv
        have b := f1 y.length hyl hl
        rw [← ht, R, a] at b
        cases b
/-- Texts that begin alike. -/
theorem CK.front {x v : List UInt8} (hx : x ≠ []) (f1 : ∀ i, 1 ≤ i → i < x.length → E (h ++ x.take i) i = false) (g1 : E (h ++ x) x.length = true) (k' : CK E h L' (x ++ v)) : ∃ s, L' = x :: s ∧ CK E (h ++ x) s v := by
  have hxl : 1 ≤ x.length := by have := List.length_pos_iff.2 hx; omega
  cases L' with
  | nil =>
    have : x ++ v = [] := k'
    exact absurd (List.append_eq_nil_iff.1 this).1 hx
  | cons y s =>
    obtain ⟨hy, w, e, f2, g2, k2⟩ := k'
    have hyl : 1 ≤ y.length := by have := List.length_pos_iff.2 hy; omega
    rcases app_cases e with ⟨rfl, rfl⟩ | ⟨hl, ht, hu⟩ | ⟨hl, ht, hv⟩
    · exact ⟨s, rfl, k2⟩
    · have b := f2 x.length hxl hl
      rw [← ht, g1] at b
      cases b
    · have a := g2 hv
      have b := f1 y.length hyl hl
      rw [← ht, a] at b
      cases b
theorem CK.drop (k : CK E h L t) (j : Nat) : ∃ u, t = (L.take j).flatten ++ u ∧ CK E (h ++ (L.take j).flatten) (L.drop j) u := by
  induction j generalizing h L t with
  | zero => exact ⟨t, by simp, by simpa using k⟩
  | succ j ih =>
    cases L with
    | nil => exact ⟨t, by simp, by simpa using k⟩
    | cons x r =>
      obtain ⟨hx, u, rfl, f1, g1, k1⟩ := k
      obtain ⟨v, rfl, k2⟩ := ih k1
      refine ⟨v, by simp, ?_⟩
      simpa using k2
/-- Chunk j. -/
theorem CK.at (k : CK E h L t) (j : Nat) (hj : j < L.length) : ∃ u, t = (L.take j).flatten ++ (L[j] ++ u) ∧ L[j] ≠ [] ∧ (∀ i, 1 ≤ i → i < L[j].length → E (h ++ (L.take j).flatten ++ L[j].take i) i = false) ∧
    (u ≠ [] → E (h ++ (L.take j).flatten ++ L[j]) L[j].length = true) ∧ CK E (h ++ (L.take j).flatten ++ L[j]) (L.drop (j + 1)) u ∧ (j + 1 < L.length ↔ u ≠ []) := by
  obtain ⟨v, rfl, k1⟩ := k.drop j
  rw [List.drop_eq_getElem_cons hj] at k1
  obtain ⟨hx, u, rfl, f1, g1, k2⟩ := k1
  refine ⟨u, rfl, hx, f1, g1, k2, ?_⟩
  constructor
  · intro h2
    refine k2.pos (fun e => ?_)
    have := congrArg List.length e
    simp at this
    omega
  · intro h2
    rcases Nat.lt_or_ge (j + 1) L.length with h3 | h3
    · exact h3
    · rw [List.drop_of_length_le h3] at k2
      exact absurd k2 h2
theorem take_flat (j : Nat) (hj : j < L.length) : (L.take (j + 1)).flatten = (L.take j).flatten ++ L[j] := by
  rw [List.take_succ_eq_append_getElem hj, List.flatten_append]; simp
end

section
variable {mn b mx : Nat} {h t : List UInt8} {L : List (List UInt8)}
theorem cend_at (n : Nat) (hn : n = mx) : cend mn b mx h n = true := by unfold cend; subst hn; simp
theorem cend_least (n : Nat) (hm : mn ≤ mx) (hc : cend mn b mx h n = true) : mn ≤ n := by
  unfold cend at hc
  simp at hc
  omega
theorem CK.most (hm : 1 ≤ mx) (k : CK (cend mn b mx) h L t) (j : Nat) (hj : j < L.length) : L[j].length ≤ mx := by
  obtain ⟨u, _, _, f, _⟩ := k.at j hj
  rcases Nat.lt_or_ge mx L[j].length with hl | hl
  · have := f mx hm hl
    rw [cend_at mx rfl] at this
    cases this
  · exact hl
theorem CK.least (hm : mn ≤ mx) (k : CK (cend mn b mx) h L t) (j : Nat) (hj : j < L.length) (h2 : j + 1 < L.length) : mn ≤ L[j].length := by
  obtain ⟨u, _, _, _, g, _, h3⟩ := k.at j hj
  exact cend_least _ hm (g (h3.1 h2))
end

/-! ## even -/
/-- Chunks of n bytes. -/
def En (n : Nat) : List UInt8 → Nat → Bool := fun _ i => decide (n ≤ i)
theorem CK.even {E : List UInt8 → Nat → Bool} {n : Nat} (hE : ∀ h i, i ≤ n → E h i = decide (n ≤ i)) (hn : 1 ≤ n) {L : List (List UInt8)} {h t : List UInt8} (k : CK E h L t) : CK (En n) h L t := by
  induction L generalizing h t with
  | nil => exact k
  | cons x r ih =>
    obtain ⟨hx, u, rfl, f, g, k1⟩ := k
    have hl : x.length ≤ n := by
      rcases Nat.lt_or_ge n x.length with hl | hl
      · have := f n hn hl
        rw [hE _ n (Nat.le_refl _)] at this
        simp at this
      · exact hl
    refine ⟨hx, u, rfl, fun i h1 h2 => ?_, fun hu => ?_, ih k1⟩
    · have := f i h1 h2
      rw [hE _ i (by omega)] at this
      exact this
    · have := g hu
      rw [hE _ _ hl] at this
      exact this
theorem even_len {n : Nat} (hn : 1 ≤ n) {L : List (List UInt8)} {h t : List UInt8} (k : CK (En n) h L t) : (∀ j (hj : j < L.length), j + 1 < L.length → L[j].length = n) ∧ L.length = (t.length + n - 1) / n := by
  constructor
  · intro j hj h2
    obtain ⟨u, _, hx, f, g, _, h3⟩ := k.at j hj
    have a := g (h3.1 h2)
    simp only [En, decide_eq_true_eq] at a
    rcases Nat.lt_or_ge n L[j].length with hl | hl
    · have := f n hn hl
      simp [En] at this
    · omega
  · induction L generalizing h t with
    | nil =>
      have : t = [] := k
      subst this
      simp
      rw [Nat.div_eq_of_lt (by omega)]
    | cons x r ih =>
      obtain ⟨hx, u, rfl, f, g, k1⟩ := k
      have hxl : 1 ≤ x.length := by have := List.length_pos_iff.2 hx; omega
      have hl : x.length ≤ n := by
        rcases Nat.lt_or_ge n x.length with hl | hl
        · have := f n hn hl
          simp [En] at this
        · exact hl
      have h1 := ih k1
      rw [List.length_cons, h1, List.length_append]
      by_cases hu : u = []
      · subst hu
        simp
        rw [Nat.div_eq_of_lt (show n - 1 < n by omega), show x.length + n - 1 = (x.length - 1) + n by omega, Nat.add_div_right _ (by omega), Nat.div_eq_of_lt (by omega)]
      · have a := g hu
        simp only [En, decide_eq_true_eq] at a
        rw [show x.length + u.length + n - 1 = (u.length + n - 1) + n by omega, Nat.add_div_right _ (by omega)]
theorem even_split (mn b mx : Nat) (hm : 1 ≤ mn) (hx : mn ≤ mx) (hb : b = 0 ∨ mx = mn) (l : List UInt8) : CK (En mn) [] (csplit mn b mx l) l := by
  refine (ck_split mn b mx l).even (fun h i hi => ?_) hm
  unfold cend
  rcases hb with rfl | rfl
  · rw [Nat.pow_zero, Nat.mod_one]
    by_cases h1 : mn ≤ i
    · simp [h1]
    · have : (i == mx) = false := by simp; omega
      simp [h1, this]
  · by_cases h1 : i = mx
    · subst h1; simp
    · have h2 : ¬ mx ≤ i := by omega
      have h3 : (i == mx) = false := by simp; omega
      simp [h2, h3]
end Go.Proofs.Ytgjofpefglbjjaa
