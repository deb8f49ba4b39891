/- The document's search for the least cost, in plain Lean. Conditions: none. -/
import Derived.Test.YtahgeeklenojjaaPmO
namespace Go.Proofs.Ytahgeeklenojjaa

/-- The better one of two costs, where the first may be missing. -/
def bstC (o : Option Int) (c : Int) : Option Int := match o with
  | none => some c
  | some b => if c < b then some c else some b
/-- The best of the costs at all k below n. -/
def lsK (g : Nat → Option Int) (cost : Nat → Int) : Nat → Option Int
  | 0 => none
  | n + 1 => match g n with
    | none => lsK g cost n
    | some r => bstC (lsK g cost n) (cost n + r)
theorem lsK_some (g : Nat → Option Int) (cost : Nat → Int) : ∀ n c, lsK g cost n = some c → ∃ k r, k < n ∧ g k = some r ∧ c = cost k + r := by
  intro n
  induction n with
  | zero => intro c h; cases h
  | succ n ih =>
    intro c h
    rw [lsK] at h
    cases hg : g n with
    | none =>
      rw [hg] at h
      obtain ⟨k, r, h1, h2, h3⟩ := ih c h
      exact ⟨k, r, by omega, h2, h3⟩
    | some r =>
      rw [hg] at h
      dsimp only at h
      cases hl : lsK g cost n with
      | none =>
        rw [hl] at h
        injection h with h
        exact ⟨n, r, by omega, hg, h.symm⟩
      | some b =>
        rw [hl] at h
        unfold bstC at h
        dsimp only at h
        split at h
        · injection h with h
          exact ⟨n, r, by omega, hg, h.symm⟩
        · injection h with h
          obtain ⟨k, r2, h1, h2, h3⟩ := ih b hl
          exact ⟨k, r2, by omega, h2, by rw [← h]; exact h3⟩
theorem lsK_le (g : Nat → Option Int) (cost : Nat → Int) : ∀ n k r, k < n → g k = some r → ∃ c, lsK g cost n = some c ∧ c ≤ cost k + r := by
  intro n
  induction n with
  | zero => intro k r h; omega
  | succ n ih =>
    intro k r hk hg
    rw [lsK]
    by_cases e : k = n
    · subst e
      rw [hg]
      dsimp only
      cases hl : lsK g cost k with
      | none => exact ⟨_, rfl, Int.le_refl _⟩
      | some b =>
        unfold bstC
        dsimp only
        by_cases hc : cost k + r < b
        · rw [if_pos hc]; exact ⟨_, rfl, Int.le_refl _⟩
        · rw [if_neg hc]; exact ⟨_, rfl, by omega⟩
    · obtain ⟨c, h1, h2⟩ := ih k r (by omega) hg
      cases hn : g n with
      | none => exact ⟨c, h1, h2⟩
      | some r2 =>
        dsimp only
        rw [h1]
        unfold bstC
        dsimp only
        by_cases hc : cost n + r2 < c
        · rw [if_pos hc]; exact ⟨_, rfl, by omega⟩
        · rw [if_neg hc]; exact ⟨_, rfl, h2⟩
/-- least: f lengths are left, from len on. -/
def lsN : Nat → List Int → Nat → Nat → Option Int
  | 0, l, _, room => if l = [] ∧ room = 0 then some 0 else none
  | f + 1, l, len, room =>
    if l = [] then (if room = 0 then some 0 else none)
    else if room = 0 ∨ 2 * l.length < room then none
    else lsK (fun k => lsN f (l.drop k) (len + 1) (2 * (room - k))) (fun k => (l.take k).sum * (len : Int)) (min l.length room + 1)
/-- What lengths cost, what they are worth. -/
def costD : List Int → List Nat → Int
  | x :: l, d :: r => x * (d : Int) + costD l r
  | _, _ => 0
def worthD (E : Nat) (d : List Nat) : Nat := (d.map fun x => 2 ^ (E - x)).sum
theorem worthD_cons (E x : Nat) (d : List Nat) : worthD E (x :: d) = 2 ^ (E - x) + worthD E d := rfl
theorem worthD_rep (E len k : Nat) (d : List Nat) : worthD E (List.replicate k len ++ d) = k * 2 ^ (E - len) + worthD E d := by
  induction k with
  | zero => simp
  | succ k ih => rw [List.replicate_succ, List.cons_append, worthD_cons, ih, Nat.add_mul, Nat.one_mul]; omega
theorem costD_rep (len : Nat) : ∀ (k : Nat) (l : List Int) (d : List Nat), k ≤ l.length → costD l (List.replicate k len ++ d) = (l.take k).sum * (len : Int) + costD (l.drop k) d := by
  intro k
  induction k with
  | zero => intro l d _; simp
  | succ k ih =>
    intro l d h
    cases l with
    | nil => simp at h
    | cons x l =>
      rw [List.replicate_succ, List.cons_append, costD, ih l d (by simpa using h), List.take_succ_cons, List.drop_succ_cons, List.sum_cons, Int.add_mul]
      omega
/-- What the search finds is the cost of some lengths. -/
theorem lsN_sound : ∀ (f : Nat) (l : List Int) (len room : Nat) (c : Int), lsN f l len room = some c → ∃ d : List Nat, d.length = l.length ∧ (∀ x ∈ d, len ≤ x ∧ x < len + f) ∧ worthD (len + f) d = room * 2 ^ f ∧ c = costD l d := by
  intro f
  induction f with
  | zero =>
    intro l len room c h
    rw [lsN] at h
    by_cases hc : l = [] ∧ room = 0
    · rw [if_pos hc] at h
      injection h with h
      obtain ⟨rfl, rfl⟩ := hc
      exact ⟨[], rfl, (fun x hx => by cases hx), by simp [worthD], h.symm⟩
    · rw [if_neg hc] at h; cases h
  | succ f ih =>
    intro l len room c h
    rw [lsN] at h
    by_cases hl : l = []
    · rw [if_pos hl] at h
      by_cases hr : room = 0
      · rw [if_pos hr] at h
        injection h with h
        subst hl hr
        exact ⟨[], rfl, (fun x hx => by cases hx), by simp [worthD], h.symm⟩
      · rw [if_neg hr] at h; cases h
    · rw [if_neg hl] at h
      by_cases hp : room = 0 ∨ 2 * l.length < room
      · rw [if_pos hp] at h; cases h
      · rw [if_neg hp] at h
        obtain ⟨k, r, hk, hg, hc⟩ := lsK_some _ _ _ _ h
        obtain ⟨d, h1, h2, h3, h4⟩ := ih _ _ _ _ hg
        have hkl : k ≤ l.length ∧ k ≤ room := by omega
        rw [List.length_drop] at h1
        refine ⟨List.replicate k len ++ d, by rw [List.length_append, List.length_replicate]; omega, ?_, ?_, ?_⟩
        · intro x hx
          rw [List.mem_append, List.mem_replicate] at hx
          rcases hx with ⟨_, rfl⟩ | hx
          · omega
          · have := h2 x hx; omega
        · rw [worthD_rep, show len + (f + 1) = len + 1 + f by omega, h3, show len + 1 + f - len = f + 1 by omega, Nat.pow_succ]
          have : 2 * (room - k) * 2 ^ f = (room - k) * (2 ^ f * 2) := by rw [Nat.mul_comm 2, Nat.mul_assoc, Nat.mul_comm 2]
          rw [this, ← Nat.add_mul, Nat.add_sub_cancel' hkl.2]
        · rw [costD_rep len k l d hkl.1, hc, h4]
theorem worthD_pos (E : Nat) (d : List Nat) (h : d ≠ []) : 0 < worthD E d := by
  cases d with
  | nil => exact absurd rfl h
  | cons x d =>
    rw [worthD_cons]
    have := Nat.two_pow_pos (E - x)
    omega
theorem worthD_le (E len : Nat) : ∀ d : List Nat, (∀ x ∈ d, len ≤ x) → worthD E d ≤ d.length * 2 ^ (E - len) := by
  intro d
  induction d with
  | nil => intro _; simp [worthD]
  | cons x d ih =>
    intro h
    have h1 := ih fun y hy => h y (List.mem_cons_of_mem _ hy)
    have h2 : 2 ^ (E - x) ≤ 2 ^ (E - len) := Nat.pow_le_pow_right (by decide) (by have := h x (List.mem_cons_self ..); omega)
    rw [worthD_cons, List.length_cons, Nat.add_mul, Nat.one_mul]
    omega
/-- Lengths that do not fall begin with those of the least length. -/
theorem front_rep (len : Nat) : ∀ d : List Nat, d.Pairwise (· ≤ ·) → (∀ x ∈ d, len ≤ x) → ∃ k d', d = List.replicate k len ++ d' ∧ ∀ x ∈ d', len + 1 ≤ x := by
  intro d
  induction d with
  | nil => intro _ _; exact ⟨0, [], rfl, fun x hx => by cases hx⟩
  | cons y d ih =>
    intro hp h
    have hp' := List.pairwise_cons.1 hp
    by_cases e : y = len
    · obtain ⟨k, d', h1, h2⟩ := ih hp'.2 fun x hx => h x (List.mem_cons_of_mem _ hx)
      exact ⟨k + 1, d', by rw [h1, e, List.replicate_succ, List.cons_append], h2⟩
    · refine ⟨0, y :: d, rfl, fun x hx => ?_⟩
      have hy := h y (List.mem_cons_self ..)
      rcases List.mem_cons.1 hx with rfl | hx
      · omega
      · have := hp'.1 x hx; omega
/-- No lengths cost less than what the search finds. -/
theorem lsN_complete : ∀ (f : Nat) (l : List Int) (len room : Nat) (d : List Nat), d.length = l.length → d.Pairwise (· ≤ ·) → (∀ x ∈ d, len ≤ x ∧ x < len + f) → worthD (len + f) d = room * 2 ^ f → ∃ c, lsN f l len room = some c ∧ c ≤ costD l d := by
  intro f
  induction f with
  | zero =>
    intro l len room d hl _ hd hw
    cases d with
    | cons x d => have := hd x (List.mem_cons_self ..); omega
    | nil =>
      have hl0 : l = [] := List.eq_nil_of_length_eq_zero hl.symm
      have hr : room = 0 := by simp [worthD] at hw; omega
      subst hl0 hr
      exact ⟨0, by rw [lsN, if_pos ⟨rfl, rfl⟩], Int.le_refl _⟩
  | succ f ih =>
    intro l len room d hl hp hd hw
    rw [lsN]
    have hpw := Nat.two_pow_pos (f + 1)
    by_cases hl0 : l = []
    · subst hl0
      have hd0 : d = [] := List.eq_nil_of_length_eq_zero hl
      subst hd0
      have hr : room = 0 := by
        have : room * 2 ^ (f + 1) = 0 := by rw [← hw]; rfl
        rcases Nat.mul_eq_zero.1 this with h | h
        · exact h
        · omega
      rw [if_pos rfl, if_pos hr]
      exact ⟨0, rfl, Int.le_refl _⟩
    · rw [if_neg hl0]
      have hdn : d ≠ [] := fun e => hl0 (List.eq_nil_of_length_eq_zero (by rw [← hl, e]; rfl))
      have h1 := worthD_pos (len + (f + 1)) d hdn
      have h2 := worthD_le (len + (f + 1)) len d fun x hx => (hd x hx).1
      rw [hw] at h1 h2
      rw [show len + (f + 1) - len = f + 1 by omega, hl] at h2
      have hr1 : room ≤ l.length := Nat.le_of_mul_le_mul_right h2 hpw
      have hr0 : room ≠ 0 := fun e => by rw [e, Nat.zero_mul] at h1; omega
      rw [if_neg (by omega)]
      obtain ⟨k, d', he, hd'⟩ := front_rep len d hp fun x hx => (hd x hx).1
      have hkl : k + d'.length = l.length := by rw [← hl, he, List.length_append, List.length_replicate]
      rw [he, worthD_rep, show len + (f + 1) - len = f + 1 by omega] at hw
      have hkr : k ≤ room := Nat.le_of_mul_le_mul_right (by omega : k * 2 ^ (f + 1) ≤ room * 2 ^ (f + 1)) hpw
      have hw' : worthD (len + 1 + f) d' = 2 * (room - k) * 2 ^ f := by
        rw [show len + 1 + f = len + (f + 1) by omega]
        have e1 : 2 * (room - k) * 2 ^ f = (room - k) * 2 ^ (f + 1) := by rw [Nat.pow_succ, Nat.mul_comm 2, Nat.mul_assoc, Nat.mul_comm 2]
        have e2 : (room - k) * 2 ^ (f + 1) + k * 2 ^ (f + 1) = room * 2 ^ (f + 1) := by rw [← Nat.add_mul, Nat.sub_add_cancel hkr]
        omega
      have hp' : d'.Pairwise (· ≤ ·) := by
        rw [he] at hp
        exact (List.pairwise_append.1 hp).2.1
      obtain ⟨r, h3, h4⟩ := ih (l.drop k) (len + 1) (2 * (room - k)) d' (by rw [List.length_drop]; omega) hp' (fun x hx => by
        have a1 := hd' x hx
        have a2 := (hd x (by rw [he]; exact List.mem_append_right _ hx)).2
        omega) hw'
      obtain ⟨c, h5, h6⟩ := lsK_le (fun k => lsN f (l.drop k) (len + 1) (2 * (room - k))) (fun k => (l.take k).sum * (len : Int)) (min l.length room + 1) k r (by omega) h3
      refine ⟨c, h5, ?_⟩
      rw [he, costD_rep len k l d' (by omega)]
      omega
end Go.Proofs.Ytahgeeklenojjaa
