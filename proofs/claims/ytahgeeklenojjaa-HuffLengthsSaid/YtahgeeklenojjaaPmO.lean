/- Package merge: no other choice weighs less. Plain. Conditions: none. -/
import Derived.Test.YtahgeeklenojjaaPmQ
namespace Go.Proofs.Ytahgeeklenojjaa

theorem wsum_cons (a : It) (l : List It) : wsum (a :: l) = a.k + wsum l := rfl
theorem wsum_app (a b : List It) : wsum (a ++ b) = wsum a + wsum b := by unfold wsum; rw [List.map_append, List.sum_append]
theorem wsum_snoc (l : List It) (a : It) : wsum (l ++ [a]) = wsum l + a.k := by
  rw [wsum_app]
  show _ + (a.k + 0) = _
  omega
theorem wsum_nonneg (l : List It) (h : ∀ x ∈ l, 0 ≤ x.k) : 0 ≤ wsum l := by
  induction l with
  | nil => exact Int.le_refl _
  | cons a l ih =>
    rw [wsum_cons]
    have := h a (List.mem_cons_self ..)
    have := ih fun x hx => h x (List.mem_cons_of_mem _ hx)
    omega
theorem take_last (l : List It) (q : Nat) (h : q + 1 ≤ l.length) : wsum (l.take (q + 1)) = wsum (l.take q) + (l[q]'(by omega)).k := by
  rw [List.take_succ_eq_append_getElem (by omega), wsum_snoc]
/-- A front of two merged rows weighs no more than any two fronts of as many. -/
theorem mrg_min : ∀ (p : Nat) (A B : List It) (c q : Nat), Srt ik A → Srt ik B → (∀ x ∈ A, 0 ≤ x.k) → (∀ x ∈ B, 0 ≤ x.k) → c ≤ A.length → q ≤ B.length → p ≤ c + q → wsum ((mrg ik A B).take p) ≤ wsum (A.take c) + wsum (B.take q) := by
  intro p
  induction p with
  | zero =>
    intro A B c q _ _ hA hB _ _ _
    rw [List.take_zero]
    have h1 := wsum_nonneg (A.take c) fun x hx => hA x (List.mem_of_mem_take hx)
    have h2 := wsum_nonneg (B.take q) fun x hx => hB x (List.mem_of_mem_take hx)
    show (0 : Int) ≤ _
    omega
  | succ p ih =>
    intro A B c q sA sB hA hB hc hq hp
    match A, B, sA, sB, hA, hB, hc, hq with
    | [], B, sA, sB, hA, hB, hc, hq =>
      rw [mrg_nil, List.take_nil]
      have hc0 : c = 0 := by simpa using hc
      have hle : ∀ (m : Nat) (L : List It) (n : Nat), (∀ x ∈ L, 0 ≤ x.k) → n ≤ m → wsum (L.take n) ≤ wsum (L.take m) := by
        intro m L n hL hnm
        have e : (L.take m) = (L.take n) ++ ((L.take m).drop n) := by
          have := List.take_append_drop n (L.take m)
          rw [List.take_take, Nat.min_eq_left hnm] at this
          exact this.symm
        rw [e, wsum_app]
        have := wsum_nonneg ((L.take m).drop n) fun x hx => hL x (List.mem_of_mem_take (List.mem_of_mem_drop hx))
        omega
      have := hle q B (p + 1) hB (by omega)
      show _ ≤ (0 : Int) + _
      omega
    | a :: A, [], sA, sB, hA, hB, hc, hq =>
      rw [mrg_nil', List.take_nil]
      have hq0 : q = 0 := by simpa using hq
      have e : ((a :: A).take c) = ((a :: A).take (p + 1)) ++ (((a :: A).take c).drop (p + 1)) := by
        have := List.take_append_drop (p + 1) ((a :: A).take c)
        rw [List.take_take, Nat.min_eq_left (by omega)] at this
        exact this.symm
      rw [e, wsum_app]
      have := wsum_nonneg (((a :: A).take c).drop (p + 1)) fun x hx => hA x (List.mem_of_mem_take (List.mem_of_mem_drop hx))
      show _ ≤ _ + (0 : Int)
      omega
    | a :: A, b :: B, sA, sB, hA, hB, hc, hq =>
      simp only [List.length_cons] at hc hq
      have sA' := List.pairwise_cons.1 sA
      have sB' := List.pairwise_cons.1 sB
      rw [mrg_cons]
      by_cases hlt : ik b < ik a
      · rw [if_pos hlt, List.take_succ_cons, wsum_cons]
        have hba : b.k < a.k := hlt
        by_cases hq0 : q = 0
        · subst hq0
          obtain ⟨c, rfl⟩ : ∃ c', c = c' + 1 := ⟨c - 1, by omega⟩
          have h1 := ih (a :: A) B c 0 sA sB'.2 hA (fun x hx => hB x (List.mem_cons_of_mem _ hx)) (by simp only [List.length_cons]; omega) (Nat.zero_le _) (by omega)
          have h2 := take_last (a :: A) c (by simp only [List.length_cons]; omega)
          have h3 : a.k ≤ ((a :: A)[c]'(by simp only [List.length_cons]; omega)).k := by
            by_cases e : c = 0
            · subst e; exact Int.le_refl _
            · exact (List.pairwise_iff_getElem.1 sA) 0 c (by simp) (by simp only [List.length_cons]; omega) (by omega)
          rw [List.take_zero] at h1 ⊢
          rw [h2]
          omega
        · obtain ⟨q, rfl⟩ : ∃ q', q = q' + 1 := ⟨q - 1, by omega⟩
          have h1 := ih (a :: A) B c q sA sB'.2 hA (fun x hx => hB x (List.mem_cons_of_mem _ hx)) (by simp only [List.length_cons]; omega) (by omega) (by omega)
          rw [List.take_succ_cons (as := B), wsum_cons]
          omega
      · rw [if_neg hlt, List.take_succ_cons, wsum_cons]
        have hab : a.k ≤ b.k := Int.not_lt.1 hlt
        by_cases hc0 : c = 0
        · subst hc0
          obtain ⟨q, rfl⟩ : ∃ q', q = q' + 1 := ⟨q - 1, by omega⟩
          have h1 := ih A (b :: B) 0 q sA'.2 sB (fun x hx => hA x (List.mem_cons_of_mem _ hx)) hB (Nat.zero_le _) (by simp only [List.length_cons]; omega) (by omega)
          have h2 := take_last (b :: B) q (by simp only [List.length_cons]; omega)
          have h3 : b.k ≤ ((b :: B)[q]'(by simp only [List.length_cons]; omega)).k := by
            by_cases e : q = 0
            · subst e; exact Int.le_refl _
            · exact (List.pairwise_iff_getElem.1 sB) 0 q (by simp) (by simp only [List.length_cons]; omega) (by omega)
          rw [List.take_zero] at h1 ⊢
          rw [h2]
          omega
        · obtain ⟨c, rfl⟩ : ∃ c', c = c' + 1 := ⟨c - 1, by omega⟩
          have h1 := ih A (b :: B) c q sA'.2 sB (fun x hx => hA x (List.mem_cons_of_mem _ hx)) hB (by omega) (by simp only [List.length_cons]; omega) (by omega)
          rw [List.take_succ_cons (as := A), wsum_cons]
          omega
/-- What a choice of places weighs, how many it has. -/
def wU (A : List It) (U : Nat → Bool) : Nat → Int
  | 0 => 0
  | n + 1 => wU A U n + if U n then ((A[n]?).map It.k).getD 0 else 0
theorem front_min (A : List It) (hs : Srt ik A) (U : Nat → Bool) : ∀ n, n ≤ A.length → cntTo U n ≤ n ∧ wsum (A.take (cntTo U n)) ≤ wU A U n := by
  intro n
  induction n with
  | zero => intro _; exact ⟨Nat.le_refl _, Int.le_refl _⟩
  | succ n ih =>
    intro hn
    obtain ⟨h1, h2⟩ := ih (by omega)
    have e1 : cntTo U (n + 1) = cntTo U n + if U n = true then 1 else 0 := rfl
    have e2 : wU A U (n + 1) = wU A U n + if U n = true then ((A[n]?).map It.k).getD 0 else 0 := rfl
    rw [e1, e2]
    by_cases hU : U n = true
    · rw [if_pos hU, if_pos hU]
      refine ⟨by omega, ?_⟩
      rw [take_last A _ (by omega), List.getElem?_eq_getElem (by omega)]
      have : (A[cntTo U n]'(by omega)).k ≤ (A[n]'(by omega)).k := by
        by_cases e : cntTo U n = n
        · simp only [e]; exact Int.le_refl _
        · exact (List.pairwise_iff_getElem.1 hs) (cntTo U n) n (by omega) (by omega) (by omega)
      show _ ≤ _ + (A[n]'(by omega)).k
      omega
    · rw [if_neg hU, if_neg hU]
      exact ⟨by omega, by simpa using h2⟩
/-- The worth and the weight of a choice in k rounds, the last round first. -/
def vU (n : Nat) : Nat → (Nat → Nat → Bool) → Nat
  | 0, _ => 0
  | k + 1, U => cntTo (U 0) n * 2 ^ k + vU n k (fun r => U (r + 1))
def wR (A : List It) : Nat → (Nat → Nat → Bool) → Int
  | 0, _ => 0
  | k + 1, U => wU A (U 0) A.length + wR A k (fun r => U (r + 1))
/-- No choice of the same worth weighs less than the front. -/
theorem choice_min (A : List It) (hs : Srt ik A) (hp : ∀ x ∈ A, 0 < x.k) : ∀ (k p : Nat) (U : Nat → Nat → Bool), p * 2 ^ k ≤ 2 * vU A.length k U → p ≤ (rowN A k).length ∧ wsum ((rowN A k).take p) ≤ wR A k U := by
  intro k
  induction k with
  | zero =>
    intro p U h
    have : p = 0 := by
      have e : vU A.length 0 U = 0 := rfl
      rw [e] at h
      simpa using h
    subst this
    exact ⟨Nat.zero_le _, Int.le_refl _⟩
  | succ k ih =>
    intro p U h
    have e : vU A.length (k + 1) U = cntTo (U 0) A.length * 2 ^ k + vU A.length k (fun r => U (r + 1)) := rfl
    rw [e] at h
    obtain ⟨v, hv⟩ : ∃ v, vU A.length k (fun r => U (r + 1)) = v := ⟨_, rfl⟩
    obtain ⟨m, hm⟩ : ∃ m, cntTo (U 0) A.length = m := ⟨_, rfl⟩
    have hpw : 0 < 2 ^ k := Nat.pow_pos (by decide)
    rw [hv, hm, Nat.pow_succ] at h
    obtain ⟨y, hy⟩ : ∃ y, 2 ^ k = y := ⟨_, rfl⟩
    rw [hy] at h hpw
    have hdm := Nat.div_add_mod v y
    have hmd := Nat.mod_lt v hpw
    obtain ⟨q, hq⟩ : ∃ q, v / y = q := ⟨_, rfl⟩
    rw [hq] at hdm
    have hqv : q * y ≤ v := by rw [Nat.mul_comm]; omega
    have hpq : p ≤ m + q := by
      by_cases hc : p ≤ m + q
      · exact hc
      · exfalso
        have h1 : (m + q + 1) * y ≤ p * y := Nat.mul_le_mul_right y (by omega)
        have h2 : (m + q + 1) * y = m * y + q * y + y := by rw [Nat.add_mul, Nat.add_mul, Nat.one_mul]
        have h3 : p * (y * 2) = 2 * (p * y) := by rw [← Nat.mul_assoc, Nat.mul_comm]
        have h4 : v < q * y + y := by rw [Nat.mul_comm q y]; omega
        omega
    obtain ⟨i1, i2⟩ := ih (2 * q) (fun r => U (r + 1)) (by rw [hv, hy, Nat.mul_assoc]; omega)
    have hpl := pairs_len _ (rowN A k) (Nat.le_refl _)
    have hfm := front_min A hs (U 0) A.length (Nat.le_refl _)
    rw [hm] at hfm
    have hqp : q ≤ (pairs (rowN A k)).length := by omega
    have hmin := mrg_min p A (pairs (rowN A k)) m q hs (pairs_srt _ _ (Nat.le_refl _) (rowN_srt A hs k)).1 (fun x hx => Int.le_of_lt (hp x hx)) (fun x hx => by
      have hx2 : x ∈ rowN A (k + 1) := (mem_mrg ik _ _ x).2 (.inr hx)
      exact Int.le_of_lt (rowN_pos A hp (k + 1) x hx2)) hfm.1 hqp hpq
    have htl : ((rowN A k).take (2 * q)).length = 2 * q := by rw [List.length_take]; omega
    have hws := (pairs_syms q ((rowN A k).take (2 * q)) htl).2
    rw [← pairs_take] at hws
    refine ⟨?_, ?_⟩
    · rw [rowN_len]; omega
    · show wsum ((mrg ik A (pairs (rowN A k))).take p) ≤ wU A (U 0) A.length + wR A k (fun r => U (r + 1))
      have := hfm.2
      omega
end Go.Proofs.Ytahgeeklenojjaa
