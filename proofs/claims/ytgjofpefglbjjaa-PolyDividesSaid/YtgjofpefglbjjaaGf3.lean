/- Polynomials over two elements: divisors, prime ones, and that by a prime one every rest but nought has an inverse. Conditions: none. -/
import Derived.Test.YtgjofpefglbjjaaGf2
namespace Go.Proofs.Ytgjofpefglbjjaa.Gf

/-! ## divisors -/
def Dvd (d a : Nat) : Prop := ∃ k, a = cl k d
theorem Dvd.refl (a : Nat) : Dvd a a := ⟨1, (one_cl a).symm⟩
theorem Dvd.zero (d : Nat) : Dvd d 0 := ⟨0, (zero_cl d).symm⟩
theorem Dvd.trans {a b c : Nat} (h1 : Dvd a b) (h2 : Dvd b c) : Dvd a c := by
  obtain ⟨k, rfl⟩ := h1
  obtain ⟨l, rfl⟩ := h2
  exact ⟨cl l k, (cl_assoc l k a).symm⟩
theorem Dvd.xor {d a b : Nat} (h1 : Dvd d a) (h2 : Dvd d b) : Dvd d (a ^^^ b) := by
  obtain ⟨k, rfl⟩ := h1
  obtain ⟨l, rfl⟩ := h2
  exact ⟨k ^^^ l, (cl_xor_left k l d).symm⟩
theorem Dvd.mul {d a : Nat} (h : Dvd d a) (c : Nat) : Dvd d (cl c a) := by
  obtain ⟨k, rfl⟩ := h
  exact ⟨cl c k, (cl_assoc c k d).symm⟩
theorem dvd_len {d a : Nat} (h : Dvd d a) (ha : a ≠ 0) : len d ≤ len a := by
  obtain ⟨k, rfl⟩ := h
  have hk : k ≠ 0 := fun e => ha (by rw [e, zero_cl])
  have hd : d ≠ 0 := fun e => ha (by rw [e, cl_zero])
  have := len_cl hk hd
  have := len_pos hk
  omega
theorem dvd_md {d m : Nat} (hm : m ≠ 0) (h : Dvd d m) (a : Nat) : Dvd d (md a m) ↔ Dvd d a := by
  obtain ⟨k, hk⟩ := (md_spec a hm).1
  have hd : Dvd d (cl k m) := h.mul k
  constructor
  · intro h1
    have h2 := h1.xor hd
    rw [← hk, ← Nat.xor_assoc, Nat.xor_self, Nat.zero_xor] at h2
    exact h2
  · intro h1
    have h2 := h1.xor hd
    rw [← hk, Nat.xor_comm (md a m) a, ← Nat.xor_assoc, Nat.xor_self, Nat.zero_xor] at h2
    exact h2
theorem dvd_iff_md {d a : Nat} (hd : d ≠ 0) : Dvd d a ↔ md a d = 0 := by
  have h := md_spec a hd
  constructor
  · intro hk
    refine md_is ?_ (by rw [len_zero]; have := len_pos hd; omega)
    obtain ⟨k, rfl⟩ := hk
    exact (Eqm.self d k).symm
  · intro e
    rw [e] at h
    obtain ⟨k, hk⟩ := h.1
    exact ⟨k, by rw [← hk, Nat.zero_xor]⟩
theorem gc_dvd (p q : Nat) : Dvd (gc p q) p ∧ Dvd (gc p q) q := by
  generalize hn : len q = n
  induction n using Nat.strongRecOn generalizing p q with
  | _ n ih =>
    by_cases h : q = 0
    · subst h; rw [gc_zero]; exact ⟨Dvd.refl p, Dvd.zero p⟩
    · rw [gc_step p h]
      have hlt := (md_spec p h).2
      have := ih _ (by omega) q (md p q) rfl
      exact ⟨(dvd_md h this.1 p).1 this.2, this.1⟩
theorem gc_bezout (p q : Nat) : ∃ u v, gc p q = cl u p ^^^ cl v q := by
  generalize hn : len q = n
  induction n using Nat.strongRecOn generalizing p q with
  | _ n ih =>
    by_cases h : q = 0
    · subst h; exact ⟨1, 0, by rw [gc_zero, one_cl, cl_zero, Nat.xor_zero]⟩
    · rw [gc_step p h]
      have hlt := (md_spec p h).2
      obtain ⟨u, v, e⟩ := ih _ (by omega) q (md p q) rfl
      obtain ⟨k, hk⟩ := (md_spec p h).1
      have e2 : md p q = p ^^^ cl k q := by rw [← hk, Nat.xor_comm (md p q) p, ← Nat.xor_assoc, Nat.xor_self, Nat.zero_xor]
      refine ⟨v, u ^^^ cl v k, ?_⟩
      rw [e, e2, cl_xor_right, cl_xor_left, cl_assoc, Nat.xor_comm (cl u q), Nat.xor_assoc, Nat.xor_comm (cl v (cl k q))]
theorem gc_great {p q d : Nat} (h1 : Dvd d p) (h2 : Dvd d q) : Dvd d (gc p q) := by
  obtain ⟨u, v, e⟩ := gc_bezout p q
  rw [e]
  exact (h1.mul u).xor (h2.mul v)
theorem gc_ne {p q : Nat} (h : p ≠ 0 ∨ q ≠ 0) : gc p q ≠ 0 := by
  intro e
  have hd := gc_dvd p q
  rw [e] at hd
  obtain ⟨k, hk⟩ := hd.1
  obtain ⟨l, hl⟩ := hd.2
  rw [cl_zero] at hk hl
  omega

/-! ## prime ones -/
/-- No product of two of a degree above 0. -/
def Irr (f : Nat) : Prop := 2 ≤ len f ∧ ∀ a b, cl a b = f → len a ≤ 1 ∨ len b ≤ 1
theorem Irr.ne {f : Nat} (h : Irr f) : f ≠ 0 := fun e => by have := h.1; rw [e, len_zero] at this; omega
theorem len_one {a : Nat} (h : len a ≤ 1) : a = 0 ∨ a = 1 := by
  have := lt_of_len h
  omega
theorem len1 : len 1 = 1 := by rw [len_pos (by decide), show 1 / 2 = 0 from rfl, len_zero]
theorem irr_gc {f a : Nat} (hf : Irr f) : gc a f = 1 ∨ gc a f = f := by
  obtain ⟨k, hk⟩ := (gc_dvd a f).2
  rcases hf.2 k (gc a f) hk.symm with h | h
  · right
    rcases len_one h with e | e
    · rw [e, zero_cl] at hk; exact absurd hk hf.ne
    · rw [e, one_cl] at hk; exact hk.symm
  · left
    rcases len_one h with e | e
    · rw [e, cl_zero] at hk; exact absurd hk hf.ne
    · exact e
/-- A prime one that divides a product divides one of the two. -/
theorem euclid {f a b : Nat} (hf : Irr f) (h : Dvd f (cl a b)) : Dvd f a ∨ Dvd f b := by
  rcases irr_gc (a := a) hf with e | e
  · right
    obtain ⟨u, v, hb⟩ := gc_bezout a f
    rw [e] at hb
    have : b = cl u (cl a b) ^^^ cl (cl v b) f := by
      conv => lhs; rw [← one_cl b, hb, cl_xor_left]
      congr 1
      · exact cl_assoc u a b
      · rw [cl_assoc, cl_assoc, cl_comm f b]
    rw [this]
    exact (h.mul u).xor ⟨cl v b, rfl⟩
  · left
    have := (gc_dvd a f).1
    rwa [e] at this
theorem irr_factor (m : Nat) (hm : 2 ≤ len m) : ∃ f, Irr f ∧ Dvd f m := by
  generalize hn : len m = n
  induction n using Nat.strongRecOn generalizing m with
  | _ n ih =>
    by_cases h : Irr m
    · exact ⟨m, h, Dvd.refl m⟩
    · have : ∃ a b, cl a b = m ∧ ¬ len a ≤ 1 ∧ ¬ len b ≤ 1 := by
        apply Classical.byContradiction
        intro hno
        refine h ⟨hm, fun a b e => ?_⟩
        apply Classical.byContradiction
        intro h2
        exact hno ⟨a, b, e, by omega, by omega⟩
      obtain ⟨a, b, e, h1, h2⟩ := this
      have ha : a ≠ 0 := fun e => by rw [e, len_zero] at h1; omega
      have hb : b ≠ 0 := fun e => by rw [e, len_zero] at h2; omega
      have hl := len_cl ha hb
      rw [e] at hl
      obtain ⟨f, hf, hd⟩ := ih (len b) (by omega) b (by omega) rfl
      exact ⟨f, hf, hd.trans ⟨a, e.symm⟩⟩

/-! ## every rest but nought has an inverse -/
def prod (l : List Nat) : Nat := l.foldr cl 1
theorem prod_perm {l k : List Nat} (h : l.Perm k) : prod l = prod k := by
  induction h with
  | nil => rfl
  | cons x _ ih => simp only [prod, List.foldr_cons] at ih ⊢; rw [ih]
  | swap x y l => simp only [prod, List.foldr_cons]; rw [← cl_assoc, ← cl_assoc, cl_comm x y]
  | trans _ _ ih1 ih2 => exact ih1.trans ih2
theorem prod_ne (f : Nat) (hf : Irr f) (l : List Nat) (h : ∀ x ∈ l, ¬ Dvd f x) : ¬ Dvd f (prod l) := by
  induction l with
  | nil =>
    intro hd
    have := dvd_len hd (by simp [prod])
    simp only [prod, List.foldr_nil] at this
    rw [len1] at this
    have := hf.1
    omega
  | cons x l ih =>
    intro hd
    rcases euclid hf hd with h1 | h1
    · exact h x (by simp) h1
    · exact ih (fun y hy => h y (by simp [hy])) h1
theorem prod_scale (f a : Nat) (hf : f ≠ 0) (l : List Nat) : Eqm f (prod (l.map fun x => md (cl a x) f)) (cl (pw a f l.length) (prod l)) := by
  induction l with
  | nil =>
    show Eqm f 1 (cl (md 1 f) 1)
    rw [cl_one]
    exact (md_spec 1 hf).1.symm
  | cons x l ih =>
    show Eqm f (cl (md (cl a x) f) (prod (l.map fun x => md (cl a x) f))) (cl (md (cl (pw a f l.length) a) f) (cl x (prod l)))
    refine Eqm.trans ((md_spec (cl a x) hf).1.mul2 ih) ?_
    refine Eqm.trans (b := cl (cl (pw a f l.length) a) (cl x (prod l))) ?_ ((md_spec _ hf).1.symm.mul _)
    have : cl (cl a x) (cl (pw a f l.length) (prod l)) = cl (cl (pw a f l.length) a) (cl x (prod l)) := by
      rw [cl_assoc, cl_assoc, ← cl_assoc x, cl_comm x, cl_assoc, ← cl_assoc a, cl_comm a, cl_assoc]
    rw [this]
    exact Eqm.refl _ _
theorem perm_of_sub {l k : List Nat} (hn : l.Nodup) (hs : ∀ x ∈ l, x ∈ k) (hl : k.length ≤ l.length) : l.Perm k := by
  induction l generalizing k with
  | nil =>
    have : k = [] := List.eq_nil_of_length_eq_zero (by simpa using hl)
    rw [this]
  | cons a t ih =>
    have ha : a ∈ k := hs a (by simp)
    rw [List.nodup_cons] at hn
    have h1 : (k.erase a).length = k.length - 1 := List.length_erase_of_mem ha
    have h2 : t.Perm (k.erase a) := ih hn.2 (fun x hx => (List.mem_erase_of_ne (fun e => hn.1 (by rw [← e]; exact hx))).2 (hs x (by simp [hx]))) (by rw [h1]; simp at hl; omega)
    exact (h2.cons a).trans (List.perm_cons_erase ha).symm

/-- By a prime f of degree n: every rest but nought is 1 to the power of 2^n - 1. -/
theorem fermat (f a n : Nat) (hf : Irr f) (hn : len f = n + 1) (ha : ¬ Dvd f a) : pw a f (2 ^ n - 1) = 1 := by
  have hf0 := hf.ne
  have h1f : len 1 < len f := by rw [len1]; exact hf.1
  let L := List.range' 1 (2 ^ n - 1)
  have hmem : ∀ x, x ∈ L ↔ 1 ≤ x ∧ x < 2 ^ n := by
    intro x
    have : 0 < 2 ^ n := Nat.pow_pos (by decide)
    simp only [L, List.mem_range'_1]
    omega
  have hnd : ∀ x ∈ L, ¬ Dvd f x := by
    intro x hx hd
    have hx := (hmem x).1 hx
    have h1 := dvd_len hd (by omega)
    have h2 := len_le hx.2
    omega
  have hsmall : ∀ x, md (cl a x) f < 2 ^ n := fun x => lt_of_len (by have := (md_spec (cl a x) hf0).2; omega)
  have hperm : (L.map fun x => md (cl a x) f).Perm L := by
    refine perm_of_sub ?_ ?_ (by simp)
    · rw [List.nodup_iff_pairwise_ne, List.pairwise_map]
      have hL : L.Pairwise (· ≠ ·) := List.nodup_range'
      refine hL.imp_of_mem ?_
      intro x y hx hy hne e
      have h1 : Eqm f (cl a x) (cl a y) := eqm_of_md hf0 e
      obtain ⟨k, hk⟩ := h1
      rw [← cl_xor_right] at hk
      rcases euclid hf ⟨k, hk⟩ with h2 | h2
      · exact ha h2
      · have hx := (hmem x).1 hx
        have hy := (hmem y).1 hy
        by_cases h0 : x ^^^ y = 0
        · exact hne (xor_eq_zero h0)
        · have h3 := dvd_len h2 h0
          have h4 := len_le (xor_lt hx.2 hy.2)
          omega
    · intro y hy
      rw [List.mem_map] at hy
      obtain ⟨x, hx, rfl⟩ := hy
      rw [hmem]
      refine ⟨?_, hsmall x⟩
      apply Classical.byContradiction
      intro h0
      have e : md (cl a x) f = 0 := by omega
      rcases euclid hf ((dvd_iff_md hf0).2 e) with h1 | h1
      · exact ha h1
      · exact hnd x hx h1
  have h1 := prod_scale f a hf0 L
  rw [prod_perm hperm] at h1
  have hlen : L.length = 2 ^ n - 1 := by simp [L]
  rw [hlen] at h1
  obtain ⟨k, hk⟩ := h1
  have h2 : Dvd f (cl (1 ^^^ pw a f (2 ^ n - 1)) (prod L)) := ⟨k, by rw [cl_xor_left, one_cl]; exact hk⟩
  rcases euclid hf h2 with h3 | h3
  · obtain ⟨l, hl⟩ := h3
    exact (Eqm.small (m := f) ⟨l, hl⟩ h1f (pw_small a f _ hf0)).symm
  · exact absurd h3 (prod_ne f hf L hnd)

/-- x to the power of 2^i, whole. -/
theorem zi_eqm (p i : Nat) (hp : p ≠ 0) : Eqm p (zi p i) (2 ^ 2 ^ i) := by
  induction i with
  | zero => exact Eqm.refl _ _
  | succ i ih =>
    refine (md_spec _ hp).1.trans ?_
    have := ih.mul2 ih
    rwa [cl_pow, ← Nat.pow_add, ← Nat.two_mul, ← Nat.pow_succ'] at this
theorem zi_pw (f i : Nat) (hf : f ≠ 0) : Eqm f (2 ^ 2 ^ i) (pw 2 f (2 ^ i)) := by
  have : ∀ n, Eqm f (2 ^ n) (pw 2 f n) := by
    intro n
    induction n with
    | zero => exact (md_spec 1 hf).1.symm
    | succ n ih =>
      refine Eqm.trans (b := cl (pw 2 f n) 2) ?_ (md_spec _ hf).1.symm
      have := ih.mul 2
      rwa [show (2 : Nat) = 2 ^ 1 by decide, cl_pow, ← Nat.pow_add] at this
  exact this _
/-- A prime one of degree i divides x to the power of 2^i less x. -/
theorem irr_divides (f i : Nat) (hf : Irr f) (hi : len f = i + 1) : Dvd f (2 ^ 2 ^ i ^^^ 2) := by
  have hf0 := hf.ne
  by_cases h2 : Dvd f 2
  · refine Dvd.xor ?_ h2
    have h1 : 1 ≤ 2 ^ i := Nat.pow_pos (by decide)
    obtain ⟨k, hk⟩ := Nat.exists_eq_add_of_le h1
    rw [hk, Nat.pow_add, Nat.pow_one]
    have := h2.mul (2 ^ k)
    rw [cl_comm, cl_pow] at this
    exact this
  · have h1 := fermat f 2 i hf hi h2
    obtain ⟨k, hk⟩ := Nat.exists_eq_add_of_le (show 1 ≤ 2 ^ i from Nat.pow_pos (by decide))
    have e : pw 2 f (2 ^ i) = md (cl (pw 2 f (2 ^ i - 1)) 2) f := by
      conv => lhs; rw [show 2 ^ i = 2 ^ i - 1 + 1 by omega]
      rfl
    have h3 : Eqm f (2 ^ 2 ^ i) 2 := by
      refine (zi_pw f i hf0).trans ?_
      rw [e, h1, one_cl]
      exact (md_spec 2 hf0).1
    obtain ⟨l, hl⟩ := h3
    exact ⟨l, hl⟩

/-- What passes the test is prime. -/
theorem test_irr (m : Nat) (hm : 2 ≤ len m) (h : prAll m ((len m - 1) / 2) = true) : Irr m := by
  have hm0 : m ≠ 0 := fun e => by rw [e, len_zero] at hm; omega
  refine ⟨hm, fun a b e => ?_⟩
  apply Classical.byContradiction
  intro hno
  have h1 : 2 ≤ len a := by omega
  have h2 : 2 ≤ len b := by omega
  have ha : a ≠ 0 := fun e => by rw [e, len_zero] at h1; omega
  have hb : b ≠ 0 := fun e => by rw [e, len_zero] at h2; omega
  have hl := len_cl ha hb
  rw [e] at hl
  have hsm : ∃ d, 2 ≤ len d ∧ len d ≤ (len m - 1) / 2 + 1 ∧ Dvd d m := by
    rcases Nat.le_total (len a) (len b) with h3 | h3
    · exact ⟨a, h1, by omega, b, by rw [cl_comm, e]⟩
    · exact ⟨b, h2, by omega, a, e.symm⟩
  obtain ⟨d, hd1, hd2, hd3⟩ := hsm
  obtain ⟨f, hf, hfd⟩ := irr_factor d hd1
  have hd0 : d ≠ 0 := fun e => by rw [e, len_zero] at hd1; omega
  have hfl := dvd_len hfd hd0
  have hf2 := hf.1
  obtain ⟨i, hi⟩ : ∃ i, len f = i + 1 := ⟨len f - 1, by omega⟩
  have hok := prAll_ok h (i := i) (by omega) (by omega)
  have hfm := hfd.trans hd3
  have hx := irr_divides f i hf hi
  have hz : Dvd f (zi m i ^^^ 2) := by
    obtain ⟨k, hk⟩ := zi_eqm m i hm0
    have h5 : zi m i ^^^ 2 = cl k m ^^^ (2 ^ 2 ^ i ^^^ 2) := by
      rw [← hk, Nat.xor_assoc, ← Nat.xor_assoc (2 ^ 2 ^ i), Nat.xor_self, Nat.zero_xor]
    rw [h5]
    exact (hfm.mul k).xor hx
  have hg := gc_great hfm ((dvd_md hm0 hfm _).2 hz)
  unfold prOk at hok
  rw [beq_iff_eq.1 hok] at hg
  have := dvd_len hg (by decide)
  rw [len1] at this
  omega
end Go.Proofs.Ytgjofpefglbjjaa.Gf
