/- Package merge: the lengths that it counts make codes. Plain. Conditions: none. -/
import Derived.Test.YtahgeeklenojjaaPmP
import Derived.Test.YtahgeeklenojjaaCodesP
namespace Go.Proofs.Ytahgeeklenojjaa

/-- How many rounds bring more than j. -/
def hC (cs : List Nat) (j : Nat) : Nat := cs.countP fun c => decide (j < c)
theorem hC_cons (c : Nat) (r : List Nat) (j : Nat) : hC (c :: r) j = hC r j + if j < c then 1 else 0 := by
  unfold hC
  rw [List.countP_cons]
  by_cases h : j < c
  · simp [h]
  · simp [h]
theorem hC_le (cs : List Nat) (j : Nat) : hC cs j ≤ cs.length := List.countP_le_length
theorem hC_mono (cs : List Nat) (i j : Nat) (h : i ≤ j) : hC cs j ≤ hC cs i := by
  induction cs with
  | nil => exact Nat.le_refl _
  | cons c r ih =>
    rw [hC_cons, hC_cons]
    by_cases h1 : j < c
    · rw [if_pos h1, if_pos (by omega)]; omega
    · rw [if_neg h1]; omega
/-- The worth of one thing's rounds. -/
def valI : List Nat → Nat → Nat
  | [], _ => 0
  | c :: r, j => (if j < c then 2 ^ r.length else 0) + valI r j
theorem valI_zero : ∀ (cs : List Nat) (j : Nat), (∀ c ∈ cs, c ≤ j) → valI cs j = 0 ∧ hC cs j = 0 := by
  intro cs
  induction cs with
  | nil => intro j _; exact ⟨rfl, rfl⟩
  | cons c r ih =>
    intro j h
    obtain ⟨h1, h2⟩ := ih j fun d hd => h d (List.mem_cons_of_mem _ hd)
    have hc := h c (List.mem_cons_self ..)
    rw [hC_cons, h2, if_neg (by omega)]
    refine ⟨?_, rfl⟩
    show (if j < c then _ else 0) + valI r j = 0
    rw [if_neg (by omega), h1]
theorem valI_eq : ∀ (cs : List Nat) (j : Nat), cs.Pairwise (fun a b => b ≤ a) → valI cs j + 2 ^ (cs.length - hC cs j) = 2 ^ cs.length := by
  intro cs
  induction cs with
  | nil => intro j _; rfl
  | cons c r ih =>
    intro j h
    obtain ⟨h1, h2⟩ := List.pairwise_cons.1 h
    by_cases hj : j < c
    · rw [hC_cons, if_pos hj]
      show (if j < c then 2 ^ r.length else 0) + valI r j + 2 ^ (r.length + 1 - (hC r j + 1)) = 2 ^ (r.length + 1)
      rw [if_pos hj, Nat.add_sub_add_right, Nat.add_assoc, ih j h2, Nat.pow_succ]
      omega
    · obtain ⟨k1, k2⟩ := valI_zero (c :: r) j (fun d hd => by
        rcases List.mem_cons.1 hd with rfl | hd
        · omega
        · have := h1 d hd; omega)
      rw [k1, k2, Nat.zero_add, Nat.sub_zero]
theorem sumTo_mul (f : Nat → Nat) (d : Nat) (k : Nat) : sumTo (fun j => f j * d) k = sumTo f k * d := by
  induction k with
  | zero => exact (Nat.zero_mul d).symm
  | succ k ih => simp only [sumTo, ih, Nat.add_mul]
theorem sumTo_below (c v : Nat) : ∀ n, c ≤ n → sumTo (fun j => if j < c then v else 0) n = c * v := by
  intro n
  induction n with
  | zero => intro h; have : c = 0 := by omega
            subst this; exact (Nat.zero_mul v).symm
  | succ n ih =>
    intro h
    by_cases hc : c = n + 1
    · subst hc
      have e : ∀ m, m ≤ n + 1 → sumTo (fun j => if j < n + 1 then v else 0) m = m * v := by
        intro m
        induction m with
        | zero => intro _; exact (Nat.zero_mul v).symm
        | succ m ih2 =>
          intro hm
          simp only [sumTo]
          rw [ih2 (by omega), if_pos (by omega), Nat.succ_mul]
      exact e (n + 1) (Nat.le_refl _)
    · simp only [sumTo]
      rw [ih (by omega), if_neg (by omega)]
      rfl
theorem valC_sum (n : Nat) : ∀ (cs : List Nat), (∀ c ∈ cs, c ≤ n) → valC cs = sumTo (valI cs) n := by
  intro cs
  induction cs with
  | nil =>
    intro _
    have : ∀ m, sumTo (valI []) m = 0 := by
      intro m
      induction m with
      | zero => rfl
      | succ m ih => show sumTo (valI []) m + 0 = 0; rw [ih]
    rw [this]; rfl
  | cons c r ih =>
    intro h
    have e : sumTo (valI (c :: r)) n = sumTo (fun j => (if j < c then 2 ^ r.length else 0) + valI r j) n := rfl
    rw [e, sumTo_add, sumTo_below c _ n (h c (List.mem_cons_self ..)), ← ih fun d hd => h d (List.mem_cons_of_mem _ hd)]
    rfl
/-- All rounds together. -/
theorem kraftC (n : Nat) (cs : List Nat) (hd : cs.Pairwise (fun a b => b ≤ a)) (hn : ∀ c ∈ cs, c ≤ n) : valC cs + sumTo (fun j => 2 ^ (cs.length - hC cs j)) n = n * 2 ^ cs.length := by
  rw [valC_sum n cs hn, ← sumTo_add, sumTo_congr _ (fun _ => 2 ^ cs.length) n fun j _ => valI_eq cs j hd]
  have : ∀ m, sumTo (fun _ => 2 ^ cs.length) m = m * 2 ^ cs.length := by
    intro m
    induction m with
    | zero => exact (Nat.zero_mul _).symm
    | succ m ih => simp only [sumTo, ih, Nat.succ_mul]
  exact this n
theorem kraft_one (n : Nat) (h1 : 1 ≤ n) (cs : List Nat) (hd : cs.Pairwise (fun a b => b ≤ a)) (hn : ∀ c ∈ cs, c ≤ n) (hv : 2 * valC cs = (2 * n - 2) * 2 ^ cs.length) : sumTo (fun j => 2 ^ (cs.length - hC cs j)) n = 2 ^ cs.length := by
  have hk := kraftC n cs hd hn
  have e1 : 2 * valC cs = 2 * ((n - 1) * 2 ^ cs.length) := by rw [hv, ← Nat.mul_assoc]; congr 1; omega
  have e2 : n * 2 ^ cs.length = (n - 1) * 2 ^ cs.length + 2 ^ cs.length := by rw [← Nat.succ_mul]; congr 1; omega
  omega
theorem sumTo_term (f : Nat → Nat) (n j : Nat) (h : j < n) : f j ≤ sumTo f n := by
  induction n with
  | zero => omega
  | succ n ih =>
    simp only [sumTo]
    by_cases e : j = n
    · subst e; omega
    · have := ih (by omega); omega
theorem sumTo_two (f : Nat → Nat) (n i j : Nat) (hi : i < n) (hj : j < n) (h : i ≠ j) : f i + f j ≤ sumTo f n := by
  induction n with
  | zero => omega
  | succ n ih =>
    simp only [sumTo]
    by_cases e1 : i = n
    · subst e1
      have := sumTo_term f i j (by omega)
      omega
    · by_cases e2 : j = n
      · subst e2
        have := sumTo_term f j i (by omega)
        omega
      · have := ih (by omega) (by omega); omega
/-- Each thing is brought by some round. -/
theorem all_used (n : Nat) (h2 : 2 ≤ n) (cs : List Nat) (hs : sumTo (fun j => 2 ^ (cs.length - hC cs j)) n = 2 ^ cs.length) (j : Nat) (hj : j < n) : 0 < hC cs j := by
  by_cases h : 0 < hC cs j
  · exact h
  · exfalso
    have h0 : hC cs j = 0 := by omega
    obtain ⟨i, hi, hne⟩ : ∃ i, i < n ∧ i ≠ j := by
      by_cases e : j = 0
      · exact ⟨1, by omega, by omega⟩
      · exact ⟨0, by omega, by omega⟩
    have := sumTo_two (fun j => 2 ^ (cs.length - hC cs j)) n i j hi hj hne
    simp only [h0, Nat.sub_zero] at this
    have hp : 0 < 2 ^ (cs.length - hC cs i) := Nat.pow_pos (by decide)
    omega

/-- The symbols with a count, in order. -/
def coinsB (cnt : Nat → Int) : Nat → List It
  | 0 => []
  | n + 1 => coinsB cnt n ++ if 0 < cnt n then [⟨cnt n, [n]⟩] else []
theorem coinsB_mem (cnt : Nat → Int) (n : Nat) (x : It) (h : x ∈ coinsB cnt n) : ∃ s, s < n ∧ 0 < cnt s ∧ x = ⟨cnt s, [s]⟩ := by
  induction n with
  | zero => cases h
  | succ n ih =>
    rcases List.mem_append.1 h with h | h
    · obtain ⟨s, h1, h2⟩ := ih h
      exact ⟨s, by omega, h2⟩
    · by_cases h0 : 0 < cnt n
      · rw [if_pos h0] at h
        rcases List.mem_cons.1 h with rfl | h
        · exact ⟨n, by omega, h0, rfl⟩
        · cases h
      · rw [if_neg h0] at h; cases h
/-- A sum over the symbols that have a count. -/
theorem coinsB_sum (cnt : Nat → Int) (f : Nat → Nat) (n : Nat) : ((coinsB cnt n).map fun x => f (x.l.headD 0)).sum = sumTo (fun s => if 0 < cnt s then f s else 0) n := by
  induction n with
  | zero => rfl
  | succ n ih =>
    show ((coinsB cnt n ++ _).map _).sum = _
    rw [List.map_append, List.sum_append, ih]
    simp only [sumTo]
    congr 1
    by_cases h0 : 0 < cnt n
    · rw [if_pos h0, if_pos h0]; simp
    · rw [if_neg h0, if_neg h0]; rfl
theorem coinsB_count (cnt : Nat → Int) (n : Nat) : (syms (coinsB cnt n)).Nodup ∧ ∀ s, s ∈ syms (coinsB cnt n) ↔ (s < n ∧ 0 < cnt s) := by
  induction n with
  | zero => exact ⟨List.nodup_nil, fun s => by simp [syms, coinsB]⟩
  | succ n ih =>
    obtain ⟨h1, h2⟩ := ih
    have e : syms (coinsB cnt (n + 1)) = syms (coinsB cnt n) ++ (if 0 < cnt n then [n] else []) := by
      show (coinsB cnt n ++ _).flatMap It.l = _
      rw [List.flatMap_append]
      congr 1
      by_cases h0 : 0 < cnt n
      · rw [if_pos h0, if_pos h0]; rfl
      · rw [if_neg h0, if_neg h0]; rfl
    rw [e]
    refine ⟨?_, fun s => ?_⟩
    · by_cases h0 : 0 < cnt n
      · rw [if_pos h0]
        refine List.nodup_append.2 ⟨h1, by simp, fun a ha b hb => ?_⟩
        have := (h2 a).1 ha
        rcases List.mem_cons.1 hb with rfl | hb
        · omega
        · cases hb
      · rw [if_neg h0, List.append_nil]; exact h1
    · rw [List.mem_append, h2]
      by_cases h0 : 0 < cnt n
      · rw [if_pos h0]
        constructor
        · rintro (⟨a, b⟩ | h)
          · exact ⟨by omega, b⟩
          · rcases List.mem_cons.1 h with rfl | h
            · exact ⟨by omega, h0⟩
            · cases h
        · rintro ⟨a, b⟩
          by_cases es : s = n
          · right; rw [es]; exact List.mem_cons_self ..
          · left; exact ⟨by omega, b⟩
      · rw [if_neg h0]
        constructor
        · rintro (⟨a, b⟩ | h)
          · exact ⟨by omega, b⟩
          · cases h
        · rintro ⟨a, b⟩
          left
          refine ⟨?_, b⟩
          by_cases es : s = n
          · subst es; exact absurd b h0
          · omega

/-- The lengths that package merge counts. -/
def finL (cnt : Nat → Int) (n most : Nat) (s : Nat) : Nat :=
  if (coinsB cnt n).length = 1 then (if s < n ∧ 0 < cnt s then 1 else 0)
  else (syms ((rowN (isort ik (coinsB cnt n)) most).take (2 * (coinsB cnt n).length - 2))).count s
section
variable {cnt : Nat → Int} {n most : Nat}
theorem srt_A : Srt ik (isort ik (coinsB cnt n)) := isort_srt ik _
theorem perm_A : List.Perm (isort ik (coinsB cnt n)) (coinsB cnt n) := isort_perm ik _
theorem pos_A : ∀ x ∈ isort ik (coinsB cnt n), 0 < x.k := by
  intro x hx
  obtain ⟨s, _, h, rfl⟩ := coinsB_mem cnt n x (perm_A.mem_iff.1 hx)
  exact h
theorem nodup_A : (syms (isort ik (coinsB cnt n))).Nodup := (perm_A.flatMap_right It.l).nodup_iff.2 (coinsB_count cnt n).1
/-- The symbol of a coin. -/
def symA (A : List It) (j : Nat) : Nat := ((A[j]?.map It.l).getD []).headD 0
theorem syms_eq (A : List It) (hA : ∀ x ∈ A, ∃ s, x.l = [s]) : syms A = (List.range A.length).map (symA A) := by
  induction A with
  | nil => rfl
  | cons a A ih =>
    obtain ⟨s, hs⟩ := hA a (List.mem_cons_self ..)
    rw [List.length_cons, List.range_succ_eq_map, List.map_cons, List.map_map]
    show a.l ++ syms A = _
    rw [ih fun x hx => hA x (List.mem_cons_of_mem _ hx), hs]
    have e0 : symA (a :: A) 0 = s := by unfold symA; simp [hs]
    rw [e0]
    rfl
theorem single_A : ∀ x ∈ isort ik (coinsB cnt n), ∃ s, x.l = [s] := by
  intro x hx
  obtain ⟨s, _, _, rfl⟩ := coinsB_mem cnt n x (perm_A.mem_iff.1 hx)
  exact ⟨s, rfl⟩
theorem count_take (A : List It) (hA : ∀ x ∈ A, ∃ s, x.l = [s]) (hn : (syms A).Nodup) (c j : Nat) (hj : j < A.length) : (syms (A.take c)).count (symA A j) = if j < c then 1 else 0 := by
  have e1 : syms (A.take c) = (syms A).take c := by
    rw [syms_eq _ fun x hx => hA x (List.mem_of_mem_take hx), syms_eq A hA, ← List.map_take, List.take_range, List.length_take]
    refine List.map_congr_left fun i hi => ?_
    have := List.mem_range.1 hi
    unfold symA
    rw [List.getElem?_take, if_pos (by omega)]
  have hl : (syms A).length = A.length := by rw [syms_eq A hA]; simp
  have hg : (syms A)[j]'(by omega) = symA A j := by
    have h : (syms A)[j]? = some (symA A j) := by rw [syms_eq A hA]; simp [hj]
    rw [List.getElem?_eq_getElem (by omega)] at h
    injection h
  rw [e1]
  by_cases hjc : j < c
  · rw [if_pos hjc]
    have h1 := (List.nodup_iff_count.1 (hn.sublist (List.take_sublist c _))) (symA A j)
    have h2 : 0 < ((syms A).take c).count (symA A j) := List.count_pos_iff.2 (by
      rw [← hg]
      exact List.mem_take_iff_getElem.2 ⟨j, by omega, rfl⟩)
    omega
  · rw [if_neg hjc]
    refine List.count_eq_zero.2 fun hm => ?_
    obtain ⟨i, hi, he⟩ := List.mem_take_iff_getElem.1 hm
    have := (List.getElem_inj (h₀ := by omega) (h₁ := by omega) hn).1 (he.trans hg.symm)
    omega
theorem count_flat (A : List It) (hA : ∀ x ∈ A, ∃ s, x.l = [s]) (hn : (syms A).Nodup) (j : Nat) (hj : j < A.length) : ∀ cs : List Nat, (cs.flatMap fun c => syms (A.take c)).count (symA A j) = hC cs j := by
  intro cs
  induction cs with
  | nil => rfl
  | cons c r ih => rw [List.flatMap_cons, List.count_append, ih, count_take A hA hn c j hj, hC_cons]; omega

theorem sum_range (A : List It) (f : Nat → Nat) : (A.map fun x => f (x.l.headD 0)).sum = sumTo (fun j => f (symA A j)) A.length := by
  have key : ∀ (m : Nat), m ≤ A.length → ((A.take m).map fun x => f (x.l.headD 0)).sum = sumTo (fun j => f (symA A j)) m := by
    intro m
    induction m with
    | zero => intro _; rfl
    | succ m ih =>
      intro hm
      rw [List.take_succ_eq_append_getElem (by omega), List.map_append, List.sum_append, ih (by omega)]
      simp only [sumTo]
      congr 1
      have : symA A m = A[m].l.headD 0 := by unfold symA; rw [List.getElem?_eq_getElem (by omega)]; rfl
      rw [this]
      simp
  have := key A.length (Nat.le_refl _)
  rw [List.take_length] at this
  exact this
theorem perm_sumN {a b : List Nat} (h : List.Perm a b) : a.sum = b.sum := by
  induction h with
  | nil => rfl
  | cons x _ ih => simp only [List.sum_cons, ih]
  | swap x y l => simp only [List.sum_cons]; omega
  | trans _ _ ih1 ih2 => exact ih1.trans ih2
theorem sumTo_if_pos (f : Nat → Nat) (n : Nat) : sumTo (fun s => if 0 < cnt s then f s else 0) n = sumTo (fun j => f (symA (isort ik (coinsB cnt n)) j)) (coinsB cnt n).length := by
  rw [← coinsB_sum, ← (perm_A (cnt := cnt) (n := n)).length_eq, ← sum_range]
  exact (perm_sumN ((perm_A (cnt := cnt) (n := n)).map _)).symm
theorem symA_mem {j : Nat} (hj : j < (coinsB cnt n).length) : symA (isort ik (coinsB cnt n)) j < n ∧ 0 < cnt (symA (isort ik (coinsB cnt n)) j) := by
  have hl := (perm_A (cnt := cnt) (n := n)).length_eq
  have hm : (isort ik (coinsB cnt n))[j]'(by omega) ∈ coinsB cnt n := perm_A.mem_iff.1 (List.getElem_mem _)
  obtain ⟨s, h1, h2, h3⟩ := coinsB_mem cnt n _ hm
  have : symA (isort ik (coinsB cnt n)) j = s := by unfold symA; rw [List.getElem?_eq_getElem (by omega), h3]; rfl
  rw [this]
  exact ⟨h1, h2⟩
theorem symA_k {j : Nat} (hj : j < (coinsB cnt n).length) : ((isort ik (coinsB cnt n))[j]'(by have := (perm_A (cnt := cnt) (n := n)).length_eq; omega)).k = cnt (symA (isort ik (coinsB cnt n)) j) := by
  have hl := (perm_A (cnt := cnt) (n := n)).length_eq
  have hm : (isort ik (coinsB cnt n))[j]'(by omega) ∈ coinsB cnt n := perm_A.mem_iff.1 (List.getElem_mem _)
  obtain ⟨s, h1, h2, h3⟩ := coinsB_mem cnt n _ hm
  have : symA (isort ik (coinsB cnt n)) j = s := by unfold symA; rw [List.getElem?_eq_getElem (by omega), h3]; rfl
  rw [this, h3]
theorem symA_all {s : Nat} (h1 : s < n) (h2 : 0 < cnt s) : ∃ j, j < (coinsB cnt n).length ∧ symA (isort ik (coinsB cnt n)) j = s := by
  have hm : s ∈ syms (isort ik (coinsB cnt n)) := ((perm_A (cnt := cnt) (n := n)).flatMap_right It.l).mem_iff.2 (((coinsB_count cnt n).2 s).2 ⟨h1, h2⟩)
  rw [syms_eq _ single_A] at hm
  obtain ⟨j, hj, he⟩ := List.mem_map.1 hm
  exact ⟨j, by have := (perm_A (cnt := cnt) (n := n)).length_eq; have := List.mem_range.1 hj; omega, he⟩
/-- The counts of the rounds. -/
theorem fin_rounds (h2 : 2 ≤ (coinsB cnt n).length) (hm : 1 ≤ most) (hbig : (coinsB cnt n).length ≤ 2 ^ most) : ∃ cs : List Nat, cs.length = most ∧ cs.Pairwise (fun a b => b ≤ a) ∧ (∀ c ∈ cs, c ≤ (coinsB cnt n).length) ∧ 2 * valC cs = (2 * (coinsB cnt n).length - 2) * 2 ^ cs.length ∧
    (∀ j, j < (coinsB cnt n).length → finL cnt n most (symA (isort ik (coinsB cnt n)) j) = hC cs j) ∧ (∀ s, ¬ (s < n ∧ 0 < cnt s) → finL cnt n most s = 0) ∧
    wsum ((rowN (isort ik (coinsB cnt n)) most).take (2 * (coinsB cnt n).length - 2)) = (cs.map fun c => wsum ((isort ik (coinsB cnt n)).take c)).sum := by
  have hl := (perm_A (cnt := cnt) (n := n)).length_eq
  obtain ⟨k, rfl⟩ : ∃ k, most = k + 1 := ⟨most - 1, by omega⟩
  have hen := rowN_enough (isort ik (coinsB cnt n)) (by omega) k
  have hlen : 2 * (coinsB cnt n).length - 2 ≤ (rowN (isort ik (coinsB cnt n)) (k + 1)).length := by
    have h3 : ((isort ik (coinsB cnt n)).length - 1) / 2 ^ k ≤ 1 := by
      have : ((isort ik (coinsB cnt n)).length - 1) / 2 ^ k < 2 := by
        rw [Nat.div_lt_iff_lt_mul (Nat.pow_pos (by decide))]
        have e : 2 ^ (k + 1) = 2 * 2 ^ k := by rw [Nat.pow_succ, Nat.mul_comm]
        omega
      omega
    omega
  obtain ⟨cs, k1, k2, k3, k4, k5, k6, _⟩ := levels (isort ik (coinsB cnt n)) srt_A pos_A (k + 1) _ hlen
  have hfin : ∀ s, finL cnt n (k + 1) s = (cs.flatMap fun c => syms ((isort ik (coinsB cnt n)).take c)).count s := fun s => by
    unfold finL
    rw [if_neg (by omega), k5.count_eq]
  refine ⟨cs, k1, k2, fun c hc => by have := k3 c hc; omega, by rw [k4, k1], fun j hj => ?_, fun s hs => ?_, k6⟩
  · rw [hfin, count_flat _ single_A nodup_A j (by omega)]
  · rw [hfin]
    refine List.count_eq_zero.2 fun hmem => hs ?_
    obtain ⟨c, _, hc⟩ := List.mem_flatMap.1 hmem
    have : s ∈ syms (isort ik (coinsB cnt n)) := by
      obtain ⟨x, hx, hx2⟩ := List.mem_flatMap.1 hc
      exact List.mem_flatMap.2 ⟨x, List.mem_of_mem_take hx, hx2⟩
    exact ((coinsB_count cnt n).2 s).1 (((perm_A (cnt := cnt) (n := n)).flatMap_right It.l).mem_iff.1 this)
theorem cnt_some (n : Nat) : (coinsB cnt n).length = cntTo (fun s => decide (0 < cnt s)) n := by
  induction n with
  | zero => rfl
  | succ n ih =>
    show (coinsB cnt n ++ _).length = cntTo (fun s => decide (0 < cnt s)) n + if decide (0 < cnt n) = true then 1 else 0
    rw [List.length_append, ih]
    by_cases h : 0 < cnt n
    · rw [if_pos h, decide_eq_true h]; rfl
    · rw [if_neg h, decide_eq_false h]; rfl
/-- The lengths are as they should be. -/
structure LenOK (cnt : Nat → Int) (n most : Nat) (L : Nat → Nat) : Prop where
  zero : ∀ s, ¬ (s < n ∧ 0 < cnt s) → L s = 0
  pos : ∀ s, s < n → 0 < cnt s → 0 < L s
  le : ∀ s, L s ≤ most
  mono : ∀ i j, i < n → j < n → 0 < cnt j → cnt j < cnt i → L i ≤ L j
  some : someOf L n = (coinsB cnt n).length
  parts : parts L n = if (coinsB cnt n).length = 0 then 0 else if (coinsB cnt n).length = 1 then 16384 else 32768
theorem cntTo_congr (p q : Nat → Bool) (n : Nat) (h : ∀ j, j < n → p j = q j) : cntTo p n = cntTo q n := by
  induction n with
  | zero => rfl
  | succ n ih =>
    simp only [cntTo]
    rw [ih fun j hj => h j (by omega), h n (by omega)]
theorem lenOK_some {L : Nat → Nat} (hz : ∀ s, ¬ (s < n ∧ 0 < cnt s) → L s = 0) (hp : ∀ s, s < n → 0 < cnt s → 0 < L s) : someOf L n = (coinsB cnt n).length := by
  rw [cnt_some]
  refine cntTo_congr _ _ n fun s hs => ?_
  by_cases h : 0 < cnt s
  · rw [decide_eq_true h, decide_eq_true (hp s hs h)]
  · rw [decide_eq_false h, hz s (fun x => h x.2)]; rfl
theorem lenOK_parts {L : Nat → Nat} (hz : ∀ s, ¬ (s < n ∧ 0 < cnt s) → L s = 0) : parts L n = sumTo (fun j => pt (L (symA (isort ik (coinsB cnt n)) j))) (coinsB cnt n).length := by
  rw [← sumTo_if_pos (fun s => pt (L s)) n]
  refine sumTo_congr _ _ n fun s hs => ?_
  by_cases h : 0 < cnt s
  · rw [if_pos h]
  · rw [if_neg h, hz s (fun x => h x.2)]; rfl
theorem fin_ok (hm : 1 ≤ most) (hm15 : most ≤ 15) (hbig : (coinsB cnt n).length ≤ 2 ^ most) : LenOK cnt n most (finL cnt n most) := by
  by_cases h1 : (coinsB cnt n).length = 1
  · have e : ∀ s, finL cnt n most s = if s < n ∧ 0 < cnt s then 1 else 0 := fun s => by unfold finL; rw [if_pos h1]
    have hz : ∀ s, ¬ (s < n ∧ 0 < cnt s) → finL cnt n most s = 0 := fun s hs => by rw [e, if_neg hs]
    have hp : ∀ s, s < n → 0 < cnt s → 0 < finL cnt n most s := fun s a b => by rw [e, if_pos ⟨a, b⟩]; decide
    refine ⟨hz, hp, fun s => ?_, fun i j hi hj hcj hij => ?_, lenOK_some hz hp, ?_⟩
    · rw [e]; split <;> omega
    · rw [e i, e j, if_pos (show j < n ∧ 0 < cnt j from ⟨hj, hcj⟩)]; split <;> omega
    · rw [lenOK_parts hz, h1, if_neg (by decide), if_pos rfl]
      have hs := symA_mem (cnt := cnt) (n := n) (j := 0) (by omega)
      show 0 + pt _ = 16384
      rw [e, if_pos hs]
      rfl
  · by_cases h0 : (coinsB cnt n).length = 0
    · have hnil : coinsB cnt n = [] := List.eq_nil_of_length_eq_zero h0
      have e : ∀ s, finL cnt n most s = 0 := fun s => by
        unfold finL
        rw [if_neg h1, h0]
        rfl
      have hno : ∀ s, s < n → ¬ 0 < cnt s := fun s hs h => by
        have := ((coinsB_count cnt n).2 s).2 ⟨hs, h⟩
        rw [hnil] at this
        cases this
      refine ⟨fun s _ => e s, fun s a b => absurd b (hno s a), fun s => by rw [e]; omega, fun i j _ _ _ _ => by rw [e]; omega, lenOK_some (fun s _ => e s) (fun s a b => absurd b (hno s a)), ?_⟩
      rw [lenOK_parts fun s _ => e s, h0, if_pos rfl]
      rfl
    · obtain ⟨cs, k1, k2, k3, k4, k5, k6, _⟩ := fin_rounds (cnt := cnt) (n := n) (most := most) (by omega) hm hbig
      have hk := kraft_one (coinsB cnt n).length (by omega) cs k2 k3 k4
      have hp : ∀ s, s < n → 0 < cnt s → 0 < finL cnt n most s := fun s a b => by
        obtain ⟨j, hj, rfl⟩ := symA_all a b
        rw [k5 j hj]
        exact all_used _ (by omega) cs hk j hj
      have hle : ∀ s, finL cnt n most s ≤ most := fun s => by
        by_cases hs : s < n ∧ 0 < cnt s
        · obtain ⟨j, hj, rfl⟩ := symA_all hs.1 hs.2
          rw [k5 j hj]
          have := hC_le cs j
          omega
        · rw [k6 s hs]; omega
      refine ⟨k6, hp, hle, fun i j hi hj hcj hij => ?_, lenOK_some k6 hp, ?_⟩
      · obtain ⟨a, ha, rfl⟩ := symA_all (cnt := cnt) hi (by omega)
        obtain ⟨b, hb, rfl⟩ := symA_all (cnt := cnt) hj hcj
        rw [k5 a ha, k5 b hb]
        refine hC_mono cs b a ?_
        by_cases hab : b ≤ a
        · exact hab
        · exfalso
          have hl := (perm_A (cnt := cnt) (n := n)).length_eq
          have h3 := (List.pairwise_iff_getElem.1 (srt_A (cnt := cnt) (n := n))) a b (by omega) (by omega) (by omega)
          have h4 := symA_k (cnt := cnt) (n := n) ha
          have h5 := symA_k (cnt := cnt) (n := n) hb
          have h6 : ((isort ik (coinsB cnt n))[a]'(by omega)).k ≤ ((isort ik (coinsB cnt n))[b]'(by omega)).k := h3
          rw [h4, h5] at h6
          omega
      · rw [lenOK_parts k6, if_neg h0, if_neg h1]
        have e : sumTo (fun j => pt (finL cnt n most (symA (isort ik (coinsB cnt n)) j))) (coinsB cnt n).length = sumTo (fun j => 2 ^ (cs.length - hC cs j) * 2 ^ (15 - most)) (coinsB cnt n).length := by
          refine sumTo_congr _ _ _ fun j hj => ?_
          have h3 := k5 j hj
          have h4 := hC_le cs j
          have h5 := symA_mem (cnt := cnt) (n := n) hj
          have h6 := hp _ h5.1 h5.2
          rw [h3] at h6 ⊢
          unfold pt
          rw [if_pos h6, ← Nat.pow_add]
          congr 1
          omega
        rw [e, sumTo_mul, hk, ← Nat.pow_add, show cs.length + (15 - most) = 15 by omega]
theorem lenOK_fits {cnt : Nat → Int} {n most : Nat} {L : Nat → Nat} (h : LenOK cnt n most L) : parts L n ≤ 32768 ∧ (parts L n = 32768 ∨ someOf L n = 0 ∨ someOf L n = 1 ∧ parts L n = 16384) := by
  rw [h.some, h.parts]
  by_cases h0 : (coinsB cnt n).length = 0
  · rw [if_pos h0]; omega
  · rw [if_neg h0]
    by_cases h1 : (coinsB cnt n).length = 1
    · rw [if_pos h1]; omega
    · rw [if_neg h1]; omega
end
end Go.Proofs.Ytahgeeklenojjaa
