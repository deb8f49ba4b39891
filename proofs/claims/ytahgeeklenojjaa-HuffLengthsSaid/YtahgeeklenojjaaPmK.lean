/- The lengths of package merge cost just what the document's search finds. Plain. Conditions: none. -/
import Derived.Test.YtahgeeklenojjaaPmL
namespace Go.Proofs.Ytahgeeklenojjaa

/-- Sums of whole numbers. -/
def sZ (F : Nat → Int) : Nat → Int
  | 0 => 0
  | n + 1 => sZ F n + F n
theorem sZ_cons (F : Nat → Int) (n : Nat) : sZ F (n + 1) = F 0 + sZ (fun j => F (j + 1)) n := by
  induction n with
  | zero => show 0 + F 0 = F 0 + 0; omega
  | succ n ih =>
    rw [sZ, ih, sZ]
    omega
theorem sZ_congr (F G : Nat → Int) (n : Nat) (h : ∀ j, j < n → F j = G j) : sZ F n = sZ G n := by
  induction n with
  | zero => rfl
  | succ n ih => rw [sZ, sZ, ih fun j hj => h j (by omega), h n (by omega)]
theorem sZ_add (F G : Nat → Int) (n : Nat) : sZ F n + sZ G n = sZ (fun j => F j + G j) n := by
  induction n with
  | zero => rfl
  | succ n ih => rw [sZ, sZ, sZ, ← ih]; omega
theorem sZ_cast (f : Nat → Nat) (n : Nat) : ((sumTo f n : Nat) : Int) = sZ (fun j => (f j : Int)) n := by
  induction n with
  | zero => rfl
  | succ n ih =>
    show ((sumTo f n + f n : Nat) : Int) = _
    rw [sZ, ← ih]
    omega
theorem costD_sZ : ∀ (l : List Int) (d : List Nat), d.length = l.length → costD l d = sZ (fun j => l.getD j 0 * (d.getD j 0 : Int)) l.length := by
  intro l
  induction l with
  | nil => intro d _; cases d <;> rfl
  | cons x l ih =>
    intro d hd
    cases d with
    | nil => simp at hd
    | cons y d =>
      rw [costD, ih d (by simpa using hd), List.length_cons, sZ_cons]
      rfl
theorem costD_app : ∀ (l1 l2 : List Int) (d1 d2 : List Nat), d1.length = l1.length → costD (l1 ++ l2) (d1 ++ d2) = costD l1 d1 + costD l2 d2 := by
  intro l1
  induction l1 with
  | nil =>
    intro l2 d1 d2 h
    have : d1 = [] := List.eq_nil_of_length_eq_zero h
    subst this
    show costD l2 d2 = 0 + costD l2 d2
    omega
  | cons x l1 ih =>
    intro l2 d1 d2 h
    cases d1 with
    | nil => simp at h
    | cons y d1 =>
      rw [List.cons_append, List.cons_append, costD, costD, ih l2 d1 d2 (by simpa using h)]
      omega
theorem costD_rev : ∀ (l : List Int) (d : List Nat), d.length = l.length → costD l.reverse d.reverse = costD l d := by
  intro l
  induction l with
  | nil => intro d h; have : d = [] := List.eq_nil_of_length_eq_zero h; subst this; rfl
  | cons x l ih =>
    intro d h
    cases d with
    | nil => simp at h
    | cons y d =>
      have h' : d.length = l.length := by simpa using h
      rw [List.reverse_cons, List.reverse_cons, costD_app _ _ _ _ (by rw [List.length_reverse, List.length_reverse]; exact h'), ih d h']
      have e1 : costD (x :: l) (y :: d) = x * (y : Int) + costD l d := rfl
      have e2 : costD [x] [y] = x * (y : Int) + 0 := rfl
      rw [e1, e2]
      omega
theorem worthD_app (E : Nat) (a b : List Nat) : worthD E (a ++ b) = worthD E a + worthD E b := by unfold worthD; rw [List.map_append, List.sum_append]
theorem worthD_rev (E : Nat) (d : List Nat) : worthD E d.reverse = worthD E d := by
  induction d with
  | nil => rfl
  | cons x d ih =>
    rw [List.reverse_cons, worthD_app, ih]
    have e1 : worthD E (x :: d) = 2 ^ (E - x) + worthD E d := rfl
    have e2 : worthD E [x] = 2 ^ (E - x) + 0 := rfl
    rw [e1, e2]
    omega
theorem worthD_sum (E : Nat) : ∀ d : List Nat, worthD E d = sumTo (fun j => 2 ^ (E - d.getD j 0)) d.length := by
  have hc : ∀ (f : Nat → Nat) (n : Nat), sumTo f (n + 1) = f 0 + sumTo (fun j => f (j + 1)) n := by
    intro f n
    induction n with
    | zero => show 0 + f 0 = f 0 + 0; omega
    | succ n ih =>
      show sumTo f (n + 1) + f (n + 1) = f 0 + (sumTo (fun j => f (j + 1)) n + f (n + 1))
      rw [ih]; omega
  intro d
  induction d with
  | nil => rfl
  | cons x d ih =>
    rw [worthD_cons, ih, List.length_cons, hc]
    rfl
/-- A coin's weight. -/
def aA (A : List It) (j : Nat) : Int := ((A[j]?).map It.k).getD 0
theorem wU_sZ (A : List It) (U : Nat → Bool) (n : Nat) : wU A U n = sZ (fun j => if U j then aA A j else 0) n := by
  induction n with
  | zero => rfl
  | succ n ih => rw [wU, ih, sZ]; rfl
/-- In how many of the first k rounds j is chosen. -/
def cntR (U : Nat → Nat → Bool) (j : Nat) : Nat → Nat
  | 0 => 0
  | k + 1 => (if U k j then 1 else 0) + cntR U j k
theorem cntR_shift (U : Nat → Nat → Bool) (j k : Nat) : cntR U j (k + 1) = (if U 0 j then 1 else 0) + cntR (fun r => U (r + 1)) j k := by
  induction k with
  | zero => rfl
  | succ k ih =>
    rw [cntR, ih, cntR]
    omega
theorem wR_sZ (A : List It) : ∀ (k : Nat) (U : Nat → Nat → Bool), wR A k U = sZ (fun j => aA A j * (cntR U j k : Int)) A.length := by
  intro k
  induction k with
  | zero =>
    intro U
    show (0 : Int) = _
    have : ∀ n, sZ (fun j => aA A j * ((cntR U j 0 : Nat) : Int)) n = 0 := by
      intro n
      induction n with
      | zero => rfl
      | succ n ih => rw [sZ, ih]; show 0 + aA A n * ((0 : Nat) : Int) = 0; simp
    rw [this]
  | succ k ih =>
    intro U
    rw [wR, ih, wU_sZ, sZ_add]
    refine sZ_congr _ _ _ fun j _ => ?_
    rw [cntR_shift]
    cases U 0 j <;> simp [Int.mul_add]
theorem cntR_lt (e : Nat → Nat) (j k : Nat) : cntR (fun r j => decide (r < e j)) j k = min (e j) k := by
  induction k with
  | zero => show 0 = _; omega
  | succ k ih =>
    rw [cntR, ih]
    by_cases h : k < e j
    · rw [if_pos (by rw [decide_eq_true h])]; omega
    · rw [if_neg (by rw [decide_eq_false h]; decide)]; omega
theorem cnt_sum (p : Nat → Bool) (v n : Nat) : cntTo p n * v = sumTo (fun j => if p j then v else 0) n := by
  induction n with
  | zero => show 0 * v = 0; omega
  | succ n ih =>
    show (cntTo p n + if p n = true then 1 else 0) * v = sumTo _ n + _
    rw [Nat.add_mul, ih]
    congr 1
    show _ = if p n = true then v else 0
    by_cases h : p n = true
    · rw [if_pos h, if_pos h, Nat.one_mul]
    · rw [if_neg h, if_neg h, Nat.zero_mul]
theorem sumTo_add2 (f g : Nat → Nat) (n : Nat) : sumTo f n + sumTo g n = sumTo (fun j => f j + g j) n := by
  induction n with
  | zero => rfl
  | succ n ih =>
    show sumTo f n + f n + (sumTo g n + g n) = sumTo _ n + (f n + g n)
    rw [← ih]; omega
theorem sumTo_cong (f g : Nat → Nat) (n : Nat) (h : ∀ j, j < n → f j = g j) : sumTo f n = sumTo g n := by
  induction n with
  | zero => rfl
  | succ n ih =>
    show sumTo f n + f n = sumTo g n + g n
    rw [ih fun j hj => h j (by omega), h n (by omega)]
/-- The worth of a choice by lengths. -/
theorem vU_len (n : Nat) : ∀ (k : Nat) (e : Nat → Nat), (∀ j, j < n → e j ≤ k) → vU n k (fun r j => decide (r < e j)) + sumTo (fun j => 2 ^ (k - e j)) n = n * 2 ^ k := by
  intro k
  induction k with
  | zero =>
    intro e he
    show 0 + sumTo (fun j => 2 ^ (0 - e j)) n = n * 2 ^ 0
    have : ∀ m, m ≤ n → sumTo (fun j => 2 ^ (0 - e j)) m = m := by
      intro m
      induction m with
      | zero => intro _; rfl
      | succ m ih =>
        intro hm
        show sumTo _ m + 2 ^ (0 - e m) = m + 1
        rw [ih (by omega), Nat.zero_sub, Nat.pow_zero]
    rw [this n (Nat.le_refl _)]
    omega
  | succ k ih =>
    intro e he
    have h1 := ih (fun j => e j - 1) fun j hj => by have := he j hj; omega
    have e1 : vU n (k + 1) (fun r j => decide (r < e j)) = cntTo (fun j => decide (0 < e j)) n * 2 ^ k + vU n k (fun r j => decide (r + 1 < e j)) := rfl
    have e2 : (fun r j => decide (r + 1 < e j)) = fun r j => decide (r < e j - 1) := by
      funext r j
      exact decide_eq_decide.2 (by omega)
    rw [e1, e2, cnt_sum]
    have e3 : sumTo (fun j => if decide (0 < e j) = true then 2 ^ k else 0) n + sumTo (fun j => 2 ^ (k + 1 - e j)) n = sumTo (fun j => 2 ^ k + 2 ^ (k - (e j - 1))) n := by
      rw [sumTo_add2]
      refine sumTo_cong _ _ _ fun j hj => ?_
      by_cases h0 : 0 < e j
      · rw [if_pos (decide_eq_true h0), show k + 1 - e j = k - (e j - 1) by omega]
      · rw [if_neg (by rw [decide_eq_false h0]; decide), show e j = 0 by omega, Nat.sub_zero, Nat.pow_succ, show k - (0 - 1) = k by omega]
        omega
    have e4 : sumTo (fun j => 2 ^ k + 2 ^ (k - (e j - 1))) n = n * 2 ^ k + sumTo (fun j => 2 ^ (k - (e j - 1))) n := by
      rw [← sumTo_add2]
      congr 1
      have : ∀ m, sumTo (fun _ => 2 ^ k) m = m * 2 ^ k := by
        intro m
        induction m with
        | zero => show 0 = 0 * 2 ^ k; omega
        | succ m ih => show sumTo _ m + 2 ^ k = _; rw [ih, Nat.add_mul, Nat.one_mul]
      exact this n
    rw [Nat.pow_succ]
    have h2 : n * (2 ^ k * 2) = n * 2 ^ k + n * 2 ^ k := by rw [← Nat.mul_assoc]; omega
    omega
theorem aA_map (A : List It) (j : Nat) : (A.map It.k).getD j 0 = aA A j := by
  rw [List.getD_eq_getElem?_getD, List.getElem?_map]
  rfl
/-- No lengths that fit cost less than the front of package merge. -/
theorem pack_min (A : List It) (hs : Srt ik A) (hp : ∀ x ∈ A, 0 < x.k) (most : Nat) (e : List Nat) (hl : e.length = A.length) (he : ∀ x ∈ e, x ≤ most) (hw : sumTo (fun j => 2 ^ (most - e.getD j 0)) A.length = 2 ^ most) (h1 : 1 ≤ A.length) :
    wsum ((rowN A most).take (2 * A.length - 2)) ≤ costD (A.map It.k) e := by
  have hj : ∀ j, j < A.length → e.getD j 0 ≤ most := fun j hj => by
    rw [List.getD_eq_getElem?_getD, List.getElem?_eq_getElem (by omega)]
    exact he _ (List.getElem_mem _)
  have hv := vU_len A.length most (fun j => e.getD j 0) hj
  rw [hw] at hv
  have hq : (2 * A.length - 2) * 2 ^ most ≤ 2 * vU A.length most (fun r j => decide (r < e.getD j 0)) := by
    have h2 : (2 * A.length - 2) * 2 ^ most + 2 * 2 ^ most = 2 * (A.length * 2 ^ most) := by
      rw [← Nat.add_mul, show 2 * A.length - 2 + 2 = 2 * A.length by omega, Nat.mul_assoc]
    omega
  obtain ⟨_, h3⟩ := choice_min A hs hp most _ _ hq
  refine Int.le_trans h3 (Int.le_of_eq ?_)
  rw [wR_sZ, costD_sZ _ _ (by rw [List.length_map]; exact hl), List.length_map]
  refine sZ_congr _ _ _ fun j hjl => ?_
  rw [cntR_lt, Nat.min_eq_left (hj j hjl), aA_map]
theorem take_sZ (A : List It) (c : Nat) (h : c ≤ A.length) : wsum (A.take c) = sZ (aA A) c := by
  induction c with
  | zero => rfl
  | succ c ih =>
    rw [take_last A c h, ih (by omega), sZ]
    unfold aA
    rw [List.getElem?_eq_getElem (by omega)]
    rfl
theorem sZ_below (F : Nat → Int) (c : Nat) : ∀ n, c ≤ n → sZ (fun j => if j < c then F j else 0) n = sZ F c := by
  intro n
  induction n with
  | zero =>
    intro h
    obtain rfl : c = 0 := by omega
    rfl
  | succ n ih =>
    intro h
    rw [sZ]
    by_cases e : c = n + 1
    · subst e
      rw [if_pos (by omega), sZ]
      congr 1
      exact sZ_congr _ _ _ fun j hj => if_pos (by omega)
    · rw [if_neg (by omega), ih (by omega)]
      omega
/-- What the rounds bring weighs as much as the lengths cost. -/
theorem rounds_sZ (A : List It) : ∀ cs : List Nat, (∀ c ∈ cs, c ≤ A.length) → (cs.map fun c => wsum (A.take c)).sum = sZ (fun j => aA A j * (hC cs j : Int)) A.length := by
  intro cs
  induction cs with
  | nil =>
    intro _
    have : ∀ n, sZ (fun j => aA A j * ((hC [] j : Nat) : Int)) n = 0 := by
      intro n
      induction n with
      | zero => rfl
      | succ n ih => rw [sZ, ih]; show 0 + aA A n * ((0 : Nat) : Int) = 0; simp
    rw [this]
    rfl
  | cons c r ih =>
    intro h
    have hc := h c (List.mem_cons_self ..)
    rw [List.map_cons, List.sum_cons, ih fun x hx => h x (List.mem_cons_of_mem _ hx), take_sZ A c hc, ← sZ_below (aA A) c A.length hc, sZ_add]
    refine sZ_congr _ _ _ fun j _ => ?_
    rw [hC_cons]
    by_cases hj : j < c
    · rw [if_pos hj, if_pos hj]
      show _ = aA A j * ((hC r j + 1 : Nat) : Int)
      rw [Int.natCast_add, Int.mul_add]
      simp
      omega
    · rw [if_neg hj, if_neg hj]
      simp
theorem desc_rev (f : Nat → Nat) (h : ∀ i j, i ≤ j → f j ≤ f i) (m : Nat) : (((List.range m).map f).reverse).Pairwise (· ≤ ·) := by
  rw [List.pairwise_reverse, List.pairwise_map]
  exact List.pairwise_lt_range.imp fun hij => h _ _ (Nat.le_of_lt hij)
theorem getD_rmap (f : Nat → Nat) (m j : Nat) (h : j < m) : ((List.range m).map f).getD j 0 = f j := by
  rw [List.getD_eq_getElem?_getD, List.getElem?_map, List.getElem?_range h]
  rfl
/-- The search finds just what package merge costs. -/
theorem least_pack {cnt : Nat → Int} {n most : Nat} (h2 : 2 ≤ (coinsB cnt n).length) (hm : 1 ≤ most) (hbig : (coinsB cnt n).length ≤ 2 ^ most) :
    lsN most (((isort ik (coinsB cnt n)).map It.k).reverse) 1 2 = some (sZ (fun j => aA (isort ik (coinsB cnt n)) j * (finL cnt n most (symA (isort ik (coinsB cnt n)) j) : Int)) (coinsB cnt n).length) := by
  obtain ⟨cs, k1, k2, k3, k4, k5, _, k7⟩ := fin_rounds (cnt := cnt) (n := n) h2 hm hbig
  have hl := (perm_A (cnt := cnt) (n := n)).length_eq
  have hsA := srt_A (cnt := cnt) (n := n)
  have hpA := pos_A (cnt := cnt) (n := n)
  obtain ⟨A, hA⟩ : ∃ A, isort ik (coinsB cnt n) = A := ⟨_, rfl⟩
  obtain ⟨m, hmm⟩ : ∃ m, (coinsB cnt n).length = m := ⟨_, rfl⟩
  rw [hA] at k5 k7 hl hsA hpA ⊢
  rw [hmm] at k3 k4 k5 k7 hl h2 hbig ⊢
  have hC1 : sZ (fun j => aA A j * (finL cnt n most (symA A j) : Int)) m = sZ (fun j => aA A j * (hC cs j : Int)) m := sZ_congr _ _ _ fun j hj => by rw [k5 j hj]
  rw [hC1]
  have hcs := rounds_sZ A cs fun c hc => by rw [hl]; exact k3 c hc
  rw [hl] at hcs
  rw [hcs] at k7
  -- the lengths, the shortest first
  have hkr := kraft_one m (by omega) cs k2 k3 k4
  rw [k1] at hkr
  have hlen : ((List.range m).map (hC cs)).length = m := by simp
  have hwl : (A.map It.k).length = m := by rw [List.length_map]; exact hl
  have hpos : ∀ j, j < m → 0 < hC cs j := fun j hj => all_used m h2 cs (by rw [k1]; exact hkr) j hj
  have hmost : ∀ j, hC cs j ≤ most := fun j => by have := hC_le cs j; omega
  have hcost : costD (A.map It.k) ((List.range m).map (hC cs)) = sZ (fun j => aA A j * (hC cs j : Int)) m := by
    rw [costD_sZ _ _ (by rw [hlen, hwl]), hwl]
    exact sZ_congr _ _ _ fun j hj => by rw [aA_map, getD_rmap _ _ _ hj]
  have hworth : worthD (1 + most) ((List.range m).map (hC cs)) = 2 * 2 ^ most := by
    rw [worthD_sum, hlen]
    have e1 : sumTo (fun j => 2 ^ (1 + most - ((List.range m).map (hC cs)).getD j 0)) m = sumTo (fun j => 2 ^ (most - hC cs j) * 2) m := sumTo_cong _ _ _ fun j hj => by
      rw [getD_rmap _ _ _ hj, show 1 + most - hC cs j = (most - hC cs j) + 1 by have := hmost j; omega, Nat.pow_succ]
    rw [e1, sumTo_mul, hkr, Nat.mul_comm]
  obtain ⟨c, c1, c2⟩ := lsN_complete most ((A.map It.k).reverse) 1 2 (((List.range m).map (hC cs)).reverse) (by rw [List.length_reverse, List.length_reverse, hlen, hwl]) (desc_rev _ (fun i j h => hC_mono cs i j h) m) (fun x hx => by
    rw [List.mem_reverse] at hx
    obtain ⟨j, hj, rfl⟩ := List.mem_map.1 hx
    have h1 := hpos j (List.mem_range.1 hj)
    have h3 := hmost j
    omega) (by rw [worthD_rev]; exact hworth)
  rw [costD_rev _ _ (by rw [hlen, hwl]), hcost] at c2
  obtain ⟨d, d1, d2, d3, d4⟩ := lsN_sound _ _ _ _ _ c1
  have d5 : d.reverse.length = A.length := by rw [List.length_reverse, d1, List.length_reverse, hwl, hl]
  have d6 : costD (A.map It.k) d.reverse = c := by
    rw [d4, ← costD_rev _ _ (by rw [d5, hwl, hl]), List.reverse_reverse]
  have hdm : ∀ x ∈ d.reverse, x ≤ most := fun x hx => by
    have := (d2 x (List.mem_reverse.1 hx)).2
    omega
  have d7 : sumTo (fun j => 2 ^ (most - d.reverse.getD j 0)) A.length = 2 ^ most := by
    have h4 := d3
    rw [← worthD_rev, worthD_sum, d5] at h4
    have e1 : sumTo (fun j => 2 ^ (1 + most - d.reverse.getD j 0)) A.length = sumTo (fun j => 2 ^ (most - d.reverse.getD j 0) * 2) A.length := sumTo_cong _ _ _ fun j hj => by
      have hx : d.reverse.getD j 0 ≤ most := by
        rw [List.getD_eq_getElem?_getD, List.getElem?_eq_getElem (by omega)]
        exact hdm _ (List.getElem_mem _)
      rw [show 1 + most - d.reverse.getD j 0 = (most - d.reverse.getD j 0) + 1 by omega, Nat.pow_succ]
    rw [e1, sumTo_mul] at h4
    omega
  have hmin := pack_min A hsA hpA most d.reverse d5 hdm d7 (by omega)
  rw [d6, hl, k7] at hmin
  rw [c1]
  congr 1
  omega
end Go.Proofs.Ytahgeeklenojjaa
