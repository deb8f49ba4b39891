/- HuffLengths, plain: the search's bounds; a falling list built by insertion. Conditions: none. -/
import Derived.Test.YtahgeeklenojjaaPmK
namespace Go.Proofs.Ytahgeeklenojjaa

def optI : Option Int → Int
  | none => -1
  | some c => c
theorem costD_bd (l : List Int) (d : List Nat) (E : Nat) (h0 : ∀ y ∈ l, 0 ≤ y ∧ y ≤ 1000000) (hd : ∀ x ∈ d, x ≤ E) : 0 ≤ costD l d ∧ costD l d ≤ 1000000 * (E : Int) * (l.length : Int) := by
  induction l generalizing d with
  | nil => cases d <;> exact ⟨Int.le_refl _, by show (0 : Int) ≤ _; simp⟩
  | cons x l ih =>
    cases d with
    | nil =>
      refine ⟨Int.le_refl _, ?_⟩
      show (0 : Int) ≤ _
      exact Int.mul_nonneg (by omega) (by omega)
    | cons y d =>
      obtain ⟨h1, h2⟩ := ih d (fun z hz => h0 z (List.mem_cons_of_mem _ hz)) (fun z hz => hd z (List.mem_cons_of_mem _ hz))
      obtain ⟨x0, x1⟩ := h0 x (List.mem_cons_self ..)
      have hy := hd y (List.mem_cons_self ..)
      have h3 : 0 ≤ x * (y : Int) := Int.mul_nonneg x0 (by omega)
      have h4 : x * (y : Int) ≤ 1000000 * (E : Int) := Int.mul_le_mul x1 (by omega) (by omega) (by omega)
      have e : 1000000 * (E : Int) * ((x :: l).length : Int) = 1000000 * (E : Int) * (l.length : Int) + 1000000 * (E : Int) := by
        rw [List.length_cons, Int.natCast_add, Int.mul_add]
        simp
      rw [e]
      show 0 ≤ x * (y : Int) + costD l d ∧ x * (y : Int) + costD l d ≤ _
      omega
theorem lsN_bd {f : Nat} {l : List Int} {len room : Nat} {c : Int} (h : lsN f l len room = some c) (h0 : ∀ y ∈ l, 0 ≤ y ∧ y ≤ 1000000) : 0 ≤ c ∧ c ≤ 1000000 * ((len + f : Nat) : Int) * (l.length : Int) := by
  obtain ⟨d, _, h2, _, h4⟩ := lsN_sound f l len room c h
  rw [h4]
  exact costD_bd l d (len + f) h0 fun x hx => Nat.le_of_lt (h2 x hx).2
theorem lsK_bd {f : Nat} {l : List Int} {len room n : Nat} {c : Int} (hl : n ≤ l.length + 1) (h : lsK (fun k => lsN f (l.drop k) (len + 1) (2 * (room - k))) (fun k => (l.take k).sum * (len : Int)) n = some c) (h0 : ∀ y ∈ l, 0 ≤ y ∧ y ≤ 1000000) : 0 ≤ c ∧ c ≤ 1000000 * ((len + 1 + f : Nat) : Int) * (l.length : Int) := by
  obtain ⟨k, r, h1, h2, h3⟩ := lsK_some _ _ _ _ h
  obtain ⟨d, d1, d2, _, d4⟩ := lsN_sound _ _ _ _ _ h2
  have e := costD_rep len k l d (by omega)
  have : c = costD l (List.replicate k len ++ d) := by rw [e, h3, d4]
  rw [this]
  refine costD_bd l _ (len + 1 + f) h0 fun x hx => ?_
  rw [List.mem_append, List.mem_replicate] at hx
  rcases hx with ⟨_, rfl⟩ | hx
  · omega
  · exact Nat.le_of_lt (d2 x hx).2
/-- A count into a falling list. -/
def insD (n : Int) : List Int → List Int
  | [] => [n]
  | x :: l => if x < n then n :: x :: l else x :: insD n l
theorem insD_done (n x : Int) : ∀ l : List Int, (l.any fun y => decide (y < n)) = true → insD n (l ++ [x]) = insD n l ++ [x] := by
  intro l
  induction l with
  | nil => intro h; cases h
  | cons y l ih =>
    intro h
    rw [List.cons_append, insD, insD]
    by_cases hy : y < n
    · rw [if_pos hy, if_pos hy]; rfl
    · rw [if_neg hy, if_neg hy, ih (by
        rw [List.any_cons, decide_eq_false hy, Bool.false_or] at h
        exact h)]
      rfl
theorem insD_not (n : Int) (r : List Int) : ∀ l : List Int, (l.any fun y => decide (y < n)) = false → insD n (l ++ r) = l ++ insD n r := by
  intro l
  induction l with
  | nil => intro _; rfl
  | cons y l ih =>
    intro h
    rw [List.any_cons, Bool.or_eq_false_iff] at h
    rw [List.cons_append, insD, if_neg (of_decide_eq_false h.1), ih h.2]
    rfl
theorem insD_perm (n : Int) : ∀ l : List Int, List.Perm (insD n l) (n :: l) := by
  intro l
  induction l with
  | nil => exact List.Perm.refl _
  | cons x l ih =>
    rw [insD]
    by_cases h : x < n
    · rw [if_pos h]
    · rw [if_neg h]
      exact (ih.cons x).trans (List.Perm.swap ..)
theorem insD_srt (n : Int) : ∀ l : List Int, l.Pairwise (fun a b => b ≤ a) → (insD n l).Pairwise (fun a b => b ≤ a) := by
  intro l
  induction l with
  | nil => intro _; exact List.pairwise_singleton _ _
  | cons x l ih =>
    intro h
    have h' := List.pairwise_cons.1 h
    rw [insD]
    by_cases hx : x < n
    · rw [if_pos hx]
      refine List.pairwise_cons.2 ⟨fun y hy => ?_, h⟩
      rcases List.mem_cons.1 hy with rfl | hy
      · omega
      · have := h'.1 y hy; omega
    · rw [if_neg hx]
      refine List.pairwise_cons.2 ⟨fun y hy => ?_, ih h'.2⟩
      have := (insD_perm n l).mem_iff.1 hy
      rcases List.mem_cons.1 this with rfl | hy
      · omega
      · exact h'.1 y hy
/-- The counts above 0, the greatest first. -/
def descL (cnt : Nat → Int) : Nat → List Int
  | 0 => []
  | n + 1 => if 0 < cnt n then insD (cnt n) (descL cnt n) else descL cnt n
theorem descL_srt (cnt : Nat → Int) (n : Nat) : (descL cnt n).Pairwise (fun a b => b ≤ a) := by
  induction n with
  | zero => exact List.Pairwise.nil
  | succ n ih =>
    rw [descL]
    split
    · exact insD_srt _ _ ih
    · exact ih
theorem descL_perm (cnt : Nat → Int) (n : Nat) : List.Perm (descL cnt n) ((coinsB cnt n).map It.k) := by
  induction n with
  | zero => exact List.Perm.refl _
  | succ n ih =>
    have e : coinsB cnt (n + 1) = coinsB cnt n ++ (if 0 < cnt n then [⟨cnt n, [n]⟩] else []) := rfl
    rw [descL, e, List.map_append]
    by_cases h : 0 < cnt n
    · rw [if_pos h, if_pos h]
      refine (insD_perm _ _).trans ((ih.cons _).trans ?_)
      exact (List.perm_append_comm (l₁ := [cnt n]))
    · rw [if_neg h, if_neg h]
      simpa using ih
theorem srt_unique : ∀ (a b : List Int), List.Perm a b → a.Pairwise (fun x y => y ≤ x) → b.Pairwise (fun x y => y ≤ x) → a = b := by
  intro a
  induction a with
  | nil => intro b h _ _; exact (List.Perm.nil_eq h)
  | cons x a ih =>
    intro b h ha hb
    cases b with
    | nil => exact absurd h.length_eq (by simp)
    | cons y b =>
      have ha' := List.pairwise_cons.1 ha
      have hb' := List.pairwise_cons.1 hb
      have hxy : x = y := by
        have h1 : x ∈ y :: b := h.mem_iff.1 (List.mem_cons_self ..)
        have h2 : y ∈ x :: a := h.mem_iff.2 (List.mem_cons_self ..)
        rcases List.mem_cons.1 h1 with e | h1
        · exact e
        · rcases List.mem_cons.1 h2 with e | h2
          · exact e.symm
          · have := ha'.1 y h2; have := hb'.1 x h1; omega
      subst hxy
      rw [ih b (List.Perm.cons_inv h) ha'.2 hb'.2]
theorem descL_eq (cnt : Nat → Int) (n : Nat) : descL cnt n = ((isort ik (coinsB cnt n)).map It.k).reverse := by
  refine srt_unique _ _ ?_ (descL_srt cnt n) ?_
  · refine (descL_perm cnt n).trans ?_
    exact ((perm_A (cnt := cnt) (n := n)).symm.map It.k).trans (List.reverse_perm _).symm
  · rw [List.pairwise_reverse, List.pairwise_map]
    exact srt_A (cnt := cnt) (n := n)
end Go.Proofs.Ytahgeeklenojjaa
