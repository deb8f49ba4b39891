/- Package merge: what its counts say. Plain. Conditions: none. -/
import Derived.Test.YtahgeeklenojjaaSortP
namespace Go.Proofs.Ytahgeeklenojjaa

/-- A thing with a weight, made of symbols. -/
structure It where
  k : Int
  l : List Nat
def ik (x : It) : Int := x.k
/-- Two and two together. -/
def pairs : List It → List It
  | a :: b :: r => ⟨a.k + b.k, a.l ++ b.l⟩ :: pairs r
  | _ => []
theorem pairs_len : ∀ (n : Nat) (R : List It), R.length ≤ n → (pairs R).length = R.length / 2 := by
  intro n
  induction n using Nat.strongRecOn with
  | ind n ih =>
    intro R h
    cases R with
    | nil => rfl
    | cons a R =>
      cases R with
      | nil => exact (show 0 = 1 / 2 by decide)
      | cons b R =>
        simp only [List.length_cons] at h
        show (pairs R).length + 1 = (R.length + 1 + 1) / 2
        rw [ih R.length (by omega) R (Nat.le_refl _)]
        omega
theorem pairs_take : ∀ (q : Nat) (R : List It), (pairs R).take q = pairs (R.take (2 * q)) := by
  intro q
  induction q with
  | zero => intro R; rw [List.take_zero, Nat.mul_zero, List.take_zero]; rfl
  | succ q ih =>
    intro R
    cases R with
    | nil => rw [List.take_nil]; rfl
    | cons a R =>
      cases R with
      | nil => rw [show 2 * (q + 1) = 2 * q + 1 + 1 by omega, List.take_succ_cons, List.take_nil]; rfl
      | cons b R =>
        rw [show 2 * (q + 1) = 2 * q + 1 + 1 by omega, List.take_succ_cons, List.take_succ_cons]
        show _ = _ :: pairs (R.take (2 * q))
        rw [← ih R]
        rfl
theorem pairs_get : ∀ (q : Nat) (R : List It) (h : 2 * q + 1 < R.length), (pairs R)[q]? = some ⟨R[2 * q].k + R[2 * q + 1].k, R[2 * q].l ++ R[2 * q + 1].l⟩ := by
  intro q
  induction q with
  | zero =>
    intro R h
    match R, h with
    | a :: b :: R, _ => rfl
  | succ q ih =>
    intro R h
    match R, h with
    | a :: b :: R, h =>
      simp only [List.length_cons] at h
      have e := ih R (by omega)
      show (pairs R)[q]? = _
      rw [e]
      rfl
theorem perm_sum {a b : List Int} (h : List.Perm a b) : a.sum = b.sum := by
  induction h with
  | nil => rfl
  | cons x _ ih => simp only [List.sum_cons, ih]
  | swap x y l => simp only [List.sum_cons]; omega
  | trans _ _ ih1 ih2 => exact ih1.trans ih2
/-- All symbols. -/
def syms (R : List It) : List Nat := R.flatMap It.l
def wsum (R : List It) : Int := (R.map It.k).sum
theorem pairs_syms : ∀ (q : Nat) (R : List It), R.length = 2 * q → syms (pairs R) = syms R ∧ wsum (pairs R) = wsum R := by
  intro q
  induction q with
  | zero =>
    intro R h
    have : R = [] := List.eq_nil_of_length_eq_zero (by omega)
    subst this
    exact ⟨rfl, rfl⟩
  | succ q ih =>
    intro R h
    match R, h with
    | a :: b :: R, h =>
      simp only [List.length_cons] at h
      obtain ⟨h1, h2⟩ := ih R (by omega)
      refine ⟨?_, ?_⟩
      · show (a.l ++ b.l) ++ syms (pairs R) = a.l ++ (b.l ++ syms R)
        rw [h1, List.append_assoc]
      · show (a.k + b.k) + wsum (pairs R) = a.k + (b.k + wsum R)
        rw [h2, Int.add_assoc]
theorem pairs_srt : ∀ (n : Nat) (R : List It), R.length ≤ n → Srt ik R → Srt ik (pairs R) ∧ ∀ a b r, R = a :: b :: r → ∀ x ∈ pairs r, a.k + b.k ≤ x.k := by
  intro n
  induction n using Nat.strongRecOn with
  | ind n ih =>
    intro R h hs
    match R, h, hs with
    | [], _, _ => exact ⟨List.Pairwise.nil, fun a b r e => by cases e⟩
    | [a], _, _ => exact ⟨List.Pairwise.nil, fun a b r e => by cases e⟩
    | a :: b :: R, h, hs =>
      simp only [List.length_cons] at h
      obtain ⟨ha, hs2⟩ := List.pairwise_cons.1 hs
      obtain ⟨hb, hs3⟩ := List.pairwise_cons.1 hs2
      obtain ⟨h1, h2⟩ := ih R.length (by omega) R (Nat.le_refl _) hs3
      have key : ∀ x ∈ pairs R, a.k + b.k ≤ x.k := by
        intro x hx
        match R, hx, ha, hb, h2, h1 with
        | c :: d :: R, hx, ha, hb, h2, h1 =>
          have h3 : b.k ≤ c.k := hb c (List.mem_cons_self ..)
          have h4 : a.k ≤ d.k := ha d (by simp)
          rcases List.mem_cons.1 hx with rfl | hx
          · show a.k + b.k ≤ c.k + d.k; omega
          · have := h2 c d R rfl x hx; omega
      refine ⟨List.pairwise_cons.2 ⟨fun x hx => key x hx, h1⟩, fun a' b' r e => ?_⟩
      injection e with e1 e
      injection e with e2 e3
      subst e1 e2 e3
      exact key

/-- How a front of two merged rows is made. -/
theorem mrg_take : ∀ (p : Nat) (A B : List It), Srt ik A → p ≤ A.length + B.length → ∃ c q, c + q = p ∧ c ≤ A.length ∧ q ≤ B.length ∧ List.Perm ((mrg ik A B).take p) (A.take c ++ B.take q) ∧
    (∀ x ∈ B.take q, ∀ y ∈ A.drop c, x.k < y.k) := by
  intro p
  induction p with
  | zero => intro A B _ _; exact ⟨0, 0, rfl, Nat.zero_le _, Nat.zero_le _, by simp, fun x hx => by simp at hx⟩
  | succ p ih =>
    intro A B hs h
    match A, B, hs, h with
    | [], B, hs, h =>
      refine ⟨0, p + 1, by omega, Nat.zero_le _, by simpa using h, ?_, fun _ _ y hy => by simp at hy⟩
      rw [mrg_nil, List.take_nil, List.nil_append]
    | a :: A, [], hs, h =>
      refine ⟨p + 1, 0, by omega, by simpa using h, Nat.zero_le _, ?_, fun x hx => by simp at hx⟩
      rw [mrg_nil', List.take_zero, List.append_nil]
    | a :: A, b :: B, hs, h =>
      simp only [List.length_cons] at h
      have hs' := List.pairwise_cons.1 hs
      rw [mrg_cons]
      by_cases hlt : ik b < ik a
      · rw [if_pos hlt, List.take_succ_cons]
        obtain ⟨c, q, h1, h2, h3, h4, h5⟩ := ih (a :: A) B hs (by simp only [List.length_cons]; omega)
        refine ⟨c, q + 1, by omega, h2, by simp only [List.length_cons]; omega, ?_, fun x hx y hy => ?_⟩
        · rw [List.take_succ_cons]
          exact (h4.cons b).trans List.perm_middle.symm
        · rw [List.take_succ_cons] at hx
          rcases List.mem_cons.1 hx with rfl | hx
          · have hy2 := List.mem_of_mem_drop hy
            have hxa : x.k < a.k := hlt
            rcases List.mem_cons.1 hy2 with rfl | hy2
            · exact hxa
            · have : a.k ≤ y.k := hs'.1 y hy2
              omega
          · exact h5 x hx y hy
      · rw [if_neg hlt, List.take_succ_cons]
        obtain ⟨c, q, h1, h2, h3, h4, h5⟩ := ih A (b :: B) hs'.2 (by simp only [List.length_cons]; omega)
        refine ⟨c + 1, q, by omega, by simp only [List.length_cons]; omega, h3, ?_, fun x hx y hy => ?_⟩
        · rw [List.take_succ_cons]
          exact h4.cons a
        · rw [List.drop_succ_cons] at hy
          exact h5 x hx y hy

/-- The rows. -/
def rowN (A : List It) : Nat → List It
  | 0 => []
  | k + 1 => mrg ik A (pairs (rowN A k))
theorem rowN_srt (A : List It) (hA : Srt ik A) : ∀ k, Srt ik (rowN A k) := by
  intro k
  induction k with
  | zero => exact List.Pairwise.nil
  | succ k ih => exact mrg_srt ik _ _ _ (Nat.le_refl _) hA (pairs_srt _ _ (Nat.le_refl _) ih).1
theorem rowN_pos (A : List It) (hA : ∀ x ∈ A, 0 < x.k) : ∀ k, ∀ x ∈ rowN A k, 0 < x.k := by
  have key : ∀ (n : Nat) (R : List It), R.length ≤ n → (∀ x ∈ R, 0 < x.k) → ∀ x ∈ pairs R, 0 < x.k := by
    intro n
    induction n using Nat.strongRecOn with
    | ind n ih =>
      intro R h hR x hx
      match R, h, hR, hx with
      | a :: b :: R, h, hR, hx =>
        simp only [List.length_cons] at h
        rcases List.mem_cons.1 hx with rfl | hx
        · have h1 := hR a (List.mem_cons_self ..)
          have h2 := hR b (by simp)
          show 0 < a.k + b.k
          omega
        · exact ih R.length (by omega) R (Nat.le_refl _) (fun y hy => hR y (by simp [hy])) x hx
  intro k
  induction k with
  | zero => intro x hx; cases hx
  | succ k ih =>
    intro x hx
    rcases (mem_mrg ik _ _ x).1 hx with h | h
    · exact hA x h
    · exact key _ _ (Nat.le_refl _) ih x h
theorem rowN_len (A : List It) (k : Nat) : (rowN A (k + 1)).length = A.length + (rowN A k).length / 2 := by
  show (mrg ik A (pairs (rowN A k))).length = _
  rw [mrg_len, pairs_len _ _ (Nat.le_refl _)]
/-- The rows are long enough. -/
theorem rowN_enough (A : List It) (hA : 1 ≤ A.length) : ∀ k, (2 * A.length - 1 - (rowN A (k + 1)).length) = (A.length - 1) / 2 ^ k ∧ (rowN A (k + 1)).length ≤ 2 * A.length - 1 := by
  intro k
  induction k with
  | zero =>
    rw [rowN_len]
    show 2 * A.length - 1 - (A.length + 0 / 2) = (A.length - 1) / 1 ∧ _
    rw [Nat.div_one]
    exact ⟨by omega, by show A.length + 0 / 2 ≤ _; omega⟩
  | succ k ih =>
    obtain ⟨h1, h2⟩ := ih
    rw [rowN_len, Nat.pow_succ, ← Nat.div_div_eq_div_mul, ← h1]
    omega

/-- The worth of counts, one for each round, the last round first. -/
def valC : List Nat → Nat
  | [] => 0
  | c :: r => c * 2 ^ r.length + valC r
/-- A front of a row, by how many things of the first row each round brings. -/
theorem levels (A : List It) (hA : Srt ik A) (hp : ∀ x ∈ A, 0 < x.k) : ∀ k p, p ≤ (rowN A k).length → ∃ cs : List Nat, cs.length = k ∧ cs.Pairwise (fun a b => b ≤ a) ∧ (∀ c ∈ cs, c ≤ A.length) ∧ 2 * valC cs = p * 2 ^ k ∧
    List.Perm (syms ((rowN A k).take p)) (cs.flatMap fun c => syms (A.take c)) ∧ wsum ((rowN A k).take p) = (cs.map fun c => wsum (A.take c)).sum ∧ (∀ c r, cs = c :: r → ∀ x ∈ A.take c, x ∈ (rowN A k).take p) := by
  intro k
  induction k with
  | zero =>
    intro p h
    have hp0 : p = 0 := by simpa [rowN] using h
    subst hp0
    exact ⟨[], rfl, List.Pairwise.nil, fun c hc => (by cases hc), (by show 2 * 0 = 0 * 2 ^ 0; omega), List.Perm.refl _, rfl, fun c r e => (by cases e)⟩
  | succ k ih =>
    intro p h
    have hl : p ≤ A.length + (pairs (rowN A k)).length := by rw [← mrg_len ik]; exact h
    obtain ⟨c, q, h1, h2, h3, h4, h5⟩ := mrg_take p A (pairs (rowN A k)) hA hl
    have hq : 2 * q ≤ (rowN A k).length := by rw [pairs_len _ _ (Nat.le_refl _)] at h3; omega
    obtain ⟨cs, k1, k2, k3, k4, k5, k6, k7⟩ := ih (2 * q) hq
    have htl : ((rowN A k).take (2 * q)).length = 2 * q := by rw [List.length_take]; omega
    obtain ⟨s1, s2⟩ := pairs_syms q ((rowN A k).take (2 * q)) htl
    rw [← pairs_take] at s1 s2
    have hsy : List.Perm (syms ((mrg ik A (pairs (rowN A k))).take p)) (syms (A.take c) ++ syms ((rowN A k).take (2 * q))) := by
      have := h4.flatMap_right It.l
      rw [List.flatMap_append] at this
      show List.Perm (syms _) _
      rw [← s1]
      exact this
    have hws : wsum ((mrg ik A (pairs (rowN A k))).take p) = wsum (A.take c) + wsum ((rowN A k).take (2 * q)) := by
      have := perm_sum (h4.map It.k)
      rw [List.map_append, List.sum_append] at this
      rw [← s2]
      exact this
    refine ⟨c :: cs, by rw [List.length_cons, k1], List.pairwise_cons.2 ⟨?_, k2⟩, ?_, ?_, ?_, ?_, ?_⟩
    · -- each earlier round brings no more
      have key : ∀ c' r, cs = c' :: r → c' ≤ c := by
        intro c' r e
        by_cases hcc : c' ≤ c
        · exact hcc
        · exfalso
          have hc' := k3 c' (by rw [e]; exact List.mem_cons_self ..)
          have hclt : c < A.length := by omega
          have hmem : A[c] ∈ A.take c' := by
            refine List.mem_take_iff_getElem.2 ⟨c, by omega, rfl⟩
          have hin := k7 c' r e _ hmem
          obtain ⟨i, hi, he⟩ := List.mem_take_iff_getElem.1 hin
          have hi2 : i < 2 * q := by omega
          have hq1 : 1 ≤ q := by omega
          have hR := rowN_srt A hA k
          have hpos := rowN_pos A hp k
          have hb : 2 * (q - 1) + 1 < (rowN A k).length := by omega
          have hg := pairs_get (q - 1) (rowN A k) hb
          have hbm : (⟨(rowN A k)[2 * (q - 1)].k + (rowN A k)[2 * (q - 1) + 1].k, (rowN A k)[2 * (q - 1)].l ++ (rowN A k)[2 * (q - 1) + 1].l⟩ : It) ∈ (pairs (rowN A k)).take q := by
            have hlt : q - 1 < (pairs (rowN A k)).length := by omega
            rw [List.getElem?_eq_getElem hlt] at hg
            injection hg with hg
            rw [← hg]
            exact List.mem_take_iff_getElem.2 ⟨q - 1, by omega, rfl⟩
          have hAd : A[c] ∈ A.drop c := by
            rw [List.drop_eq_getElem_cons hclt]
            exact List.mem_cons_self ..
          have h6 := h5 _ hbm _ hAd
          have h7 : (rowN A k)[i].k ≤ (rowN A k)[2 * (q - 1) + 1].k := by
            by_cases ei : i = 2 * (q - 1) + 1
            · simp only [ei]; exact Int.le_refl _
            · exact (List.pairwise_iff_getElem.1 hR) i (2 * (q - 1) + 1) (by omega) hb (by omega)
          have h8 := hpos _ (List.getElem_mem (l := rowN A k) (n := 2 * (q - 1)) (by omega))
          rw [he] at h7
          have h9 : (rowN A k)[2 * (q - 1)].k + (rowN A k)[2 * (q - 1) + 1].k < A[c].k := h6
          omega
      intro d hd
      cases cs with
      | nil => cases hd
      | cons c' r =>
        have hc' := key c' r rfl
        rcases List.mem_cons.1 hd with rfl | hd
        · exact hc'
        · exact Nat.le_trans ((List.pairwise_cons.1 k2).1 d hd) hc'
    · intro d hd
      rcases List.mem_cons.1 hd with rfl | hd
      · exact h2
      · exact k3 d hd
    · show 2 * (c * 2 ^ cs.length + valC cs) = _
      rw [k1, Nat.mul_add, k4, Nat.pow_succ, ← h1, Nat.add_mul, Nat.mul_comm 2 q, Nat.mul_assoc q 2, Nat.mul_comm 2 (2 ^ k)]
      congr 1
      rw [Nat.mul_comm 2, Nat.mul_assoc]
    · show List.Perm (syms ((mrg ik A (pairs (rowN A k))).take p)) (syms (A.take c) ++ cs.flatMap fun c => syms (A.take c))
      exact hsy.trans (k5.append_left _)
    · show wsum ((mrg ik A (pairs (rowN A k))).take p) = wsum (A.take c) + (cs.map fun c => wsum (A.take c)).sum
      rw [hws, k6]
    · intro d r e x hx
      injection e with e1 e2
      subst e1
      exact h4.symm.subset (List.mem_append_left _ hx)
end Go.Proofs.Ytahgeeklenojjaa
