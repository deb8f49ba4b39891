/- What is kept of snapshots, in plain Lean. Conditions: none. -/
import Derived.Test.YtcblcjbflgepoaaLaw20
namespace Go.Proofs.Ytcblcjbflgepoaa
open Go.RowKit

structure Snp where
  id : ByteArray
  time : Int
  tag : ByteArray
instance : Inhabited Snp := ⟨⟨ByteArray.empty, 0, ByteArray.empty⟩⟩
/-- Snapshot i. -/
def sn (S : List Snp) (i : Nat) : Snp := S.getD i default
theorem sn_get {S : List Snp} {i : Nat} (h : i < S.length) : sn S i = S[i] := by simp [sn, List.getD, h]
theorem drop_sn {S : List Snp} {i : Nat} (h : i < S.length) : S.drop i = sn S i :: S.drop (i + 1) := by rw [sn_get h, List.drop_eq_getElem_cons h]
theorem sn_drop (S : List Snp) (n i : Nat) : sn (S.drop n) i = sn S (n + i) := by simp [sn, List.getD]

/-- Each time is one, and none comes ahead of an older one. -/
def OkS (S : List Snp) : Prop := ∀ i, i < S.length → 0 ≤ (sn S i).time ∧ (sn S i).time ≤ 253402300799 ∧ (0 < i → (sn S (i - 1)).time ≤ (sn S i).time)
theorem OkS.drop {S : List Snp} (h : OkS S) (n : Nat) : OkS (S.drop n) := by
  intro i hi
  rw [List.length_drop] at hi
  rw [sn_drop, sn_drop]
  obtain ⟨h1, h2, h3⟩ := h (n + i) (by omega)
  refine ⟨h1, h2, fun h0 => ?_⟩
  rw [show n + (i - 1) = n + i - 1 by omega]
  exact h3 (by omega)
theorem OkS.srt {S : List Snp} (h : OkS S) : S.Pairwise (fun x y => x.time ≤ y.time) := by
  rw [List.pairwise_iff_getElem]
  intro i j hi hj hij
  obtain ⟨d, rfl⟩ : ∃ d, j = i + d := ⟨j - i, by omega⟩
  clear hij
  induction d with
  | zero => exact Int.le_refl _
  | succ d ih =>
    have h1 := ih (by omega)
    have h2 := (h (i + (d + 1)) hj).2.2 (by omega)
    rw [show i + (d + 1) - 1 = i + d by omega, sn_get (by omega), sn_get hj] at h2
    exact Int.le_trans h1 h2
theorem okS_of {S : List Snp} (h0 : ∀ x ∈ S, 0 ≤ x.time ∧ x.time ≤ 253402300799) (h : S.Pairwise (fun x y => x.time ≤ y.time)) : OkS S := by
  intro i hi
  have h1 := h0 _ (List.getElem_mem hi)
  rw [sn_get hi]
  refine ⟨h1.1, h1.2, fun hp => ?_⟩
  rw [sn_get (by omega)]
  exact List.pairwise_iff_getElem.1 h _ _ (by omega) hi (by omega)
theorem OkS.all {S : List Snp} (h : OkS S) : ∀ x ∈ S, 0 ≤ x.time ∧ x.time ≤ 253402300799 := by
  intro x hx
  obtain ⟨i, hi, rfl⟩ := List.getElem_of_mem hx
  have := h i hi
  rw [sn_get hi] at this
  exact ⟨this.1, this.2.1⟩

/-! ## spans -/
def newI (x : Int) : List Int → Bool
  | [] => true
  | y :: _ => x != y
/-- How many spans there are. -/
def DI : List Int → Nat
  | [] => 0
  | x :: r => DI r + (if newI x r then 1 else 0)
theorem DI_cons (x : Int) (r : List Int) : DI (x :: r) = DI r + (if newI x r then 1 else 0) := rfl
theorem DI_le (l : List Int) : DI l ≤ l.length := by
  induction l with
  | nil => exact Nat.le_refl _
  | cons x r ih => rw [DI_cons, List.length_cons]; split <;> omega
abbrev Srt (l : List Int) : Prop := l.Pairwise (· ≤ ·)
theorem newI_sub {x : Int} {r r' : List Int} (h : newI x r = true) (hs : Srt (x :: r)) (hr : r'.Sublist r) : newI x r' = true := by
  cases r' with
  | nil => rfl
  | cons z s =>
    have hz : z ∈ r := hr.subset (by simp)
    cases r with
    | nil => cases hz
    | cons y t =>
      simp only [newI, bne_iff_ne, ne_eq] at h ⊢
      have h1 := (List.pairwise_cons.1 hs).1 y (by simp)
      have h2 : y ≤ z := by
        rcases List.mem_cons.1 hz with e | e
        · rw [e]; exact Int.le_refl _
        · exact (List.pairwise_cons.1 (List.pairwise_cons.1 hs).2).1 z e
      omega
theorem DI_sub {l : List Int} (hs : Srt l) : ∀ {l' : List Int}, l'.Sublist l → DI l' ≤ DI l := by
  induction l with
  | nil => intro l' h; cases h; exact Nat.le_refl _
  | cons y s ih =>
    intro l' h
    have hs' := (List.pairwise_cons.1 hs).2
    cases h with
    | cons _ h => exact Nat.le_trans (ih hs' h) (Nat.le_add_right _ _)
    | cons_cons _ h =>
      rename_i k
      by_cases hn : newI y s = true
      · have := ih hs' h
        unfold DI
        rw [if_pos hn]
        split <;> omega
      · have e : DI (y :: s) = DI s := by rw [DI_cons, if_neg hn]; rfl
        rw [e]
        cases s with
        | nil => exact absurd rfl hn
        | cons z s' =>
          have hyz : y = z := by simpa [newI] using hn
          subst hyz
          cases h with
          | cons _ h => exact ih hs' (h.cons_cons y)
          | cons_cons _ h =>
            rename_i k
            have e2 : DI (y :: y :: k) = DI (y :: k) := by
              show DI (y :: k) + _ = _
              rw [if_neg (by simp [newI])]
              rfl
            rw [e2]
            exact ih hs' (h.cons_cons y)
theorem DI_snoc {l : List Int} {x : Int} (hs : Srt (l ++ [x])) : DI (l ++ [x]) = DI l + (if x ∈ l then 0 else 1) := by
  induction l with
  | nil => simp [DI, newI]
  | cons y s ih =>
    have hs2 : Srt (s ++ [x]) := (List.pairwise_cons.1 hs).2
    have h1 := ih hs2
    have hyx : y ≤ x := (List.pairwise_cons.1 hs).1 x (by simp)
    rw [List.cons_append, DI_cons, DI_cons, h1]
    cases s with
    | nil =>
      simp only [List.nil_append, newI, DI, List.mem_singleton, List.not_mem_nil, if_false, if_true]
      by_cases e : x = y
      · subst e; simp
      · have e2 : ¬ y = x := fun h => e h.symm
        simp [e, e2]
    | cons z t =>
      have hyz : y ≤ z := (List.pairwise_cons.1 hs).1 z (by simp)
      have hzx : z ≤ x := (List.pairwise_cons.1 hs2).1 x (by simp)
      have hm : (x ∈ y :: z :: t) ↔ (x ∈ z :: t) := by
        constructor
        · intro h
          rcases List.mem_cons.1 h with e | e
          · have : x = z := by omega
            rw [this]; simp
          · exact e
        · exact fun h => List.mem_cons_of_mem _ h
      have hn : newI y (z :: t ++ [x]) = newI y (z :: t) := rfl
      rw [hn]
      by_cases hx : x ∈ z :: t
      · rw [if_pos hx, if_pos (hm.2 hx)]; omega
      · rw [if_neg hx, if_neg (fun e => hx (hm.1 e))]; omega
/-- The spans, each once. -/
def dst (l : List Int) : List Int := l.foldl (fun a x => if x ∈ a then a else a ++ [x]) []
theorem dst_snoc (l : List Int) (x : Int) : dst (l ++ [x]) = if x ∈ dst l then dst l else dst l ++ [x] := by unfold dst; rw [List.foldl_append]; rfl
theorem dst_mem (l : List Int) (x : Int) : x ∈ dst l ↔ x ∈ l := by
  rw [← List.reverse_reverse l]
  generalize l.reverse = m
  induction m with
  | nil => simp [dst]
  | cons y r ih =>
    rw [List.reverse_cons, dst_snoc]
    by_cases h : y ∈ dst r.reverse
    · rw [if_pos h, ih, List.mem_append, List.mem_singleton]
      constructor
      · exact .inl
      · rintro (h2 | rfl)
        · exact h2
        · exact ih.1 h
    · rw [if_neg h, List.mem_append, List.mem_append, ih]
theorem dst_len {l : List Int} (hs : Srt l) : (dst l).length = DI l := by
  rw [← List.reverse_reverse l] at hs ⊢
  generalize l.reverse = m at hs ⊢
  induction m with
  | nil => rfl
  | cons y r ih =>
    rw [List.reverse_cons] at hs ⊢
    have hs2 : Srt r.reverse := (List.pairwise_append.1 hs).1
    rw [DI_snoc hs, dst_snoc, ← ih hs2]
    by_cases h : y ∈ r.reverse
    · rw [if_pos h, if_pos ((dst_mem _ _).2 h)]; rfl
    · rw [if_neg h, if_neg (fun e => h ((dst_mem _ _).1 e)), List.length_append]; rfl

/-! ## what is kept -/
def spD (t : Int) : Int := t / 86400
def spW (t : Int) : Int := (t / 86400 + 3) / 7
def spM (t : Int) : Int := (mon (t / 86400).toNat : Int)
/-- A span: of times that are, it never goes back. -/
def Span (sp : Int → Int) : Prop := (∀ a b, 0 ≤ a → a ≤ b → sp a ≤ sp b) ∧ ∀ a, 0 ≤ a → a ≤ 253402300799 → 0 ≤ sp a ∧ sp a ≤ 100000000
theorem span_D : Span spD := ⟨fun a b h0 h => by unfold spD; omega, fun a h0 h1 => by unfold spD; omega⟩
theorem span_W : Span spW := ⟨fun a b h0 h => by unfold spW; omega, fun a h0 h1 => by unfold spW; omega⟩
theorem span_M : Span spM := by
  refine ⟨fun a b h0 h => ?_, fun a h0 h1 => ?_⟩
  · unfold spM
    have := mon_le (a := (a / 86400).toNat) (b := (b / 86400).toNat) (by omega)
    omega
  · unfold spM
    have := mon_lt (D := (a / 86400).toNat) (by omega)
    omega
def spans (sp : Int → Int) (S : List Snp) : List Int := S.map fun x => sp x.time
theorem spans_srt {sp : Int → Int} (h : Span sp) {S : List Snp} (ho : OkS S) : Srt (spans sp S) := by
  unfold spans Srt
  rw [List.pairwise_map]
  refine List.Pairwise.imp_of_mem ?_ ho.srt
  intro x y hx hy hxy
  exact h.1 _ _ (ho.all x hx).1 hxy
def mk1 (sp : Int → Int) (c : Int) (x : Snp) (r : List Snp) : Bool := newI (sp x.time) (spans sp r) && decide ((DI (spans sp r) : Int) < c)
def mkS (sp : Int → Int) (c : Int) : List Snp → Bool
  | [] => false
  | x :: r => mk1 sp c x r
/-- A policy: of tags the first n of m. -/
structure Pol where
  a : Int
  b : Int
  c : Int
  d : Int
  n : Nat
  m : Nat → ByteArray
def tagd (P : Pol) (x : Snp) : Bool := (List.range P.n).any fun i => (P.m i).toList == x.tag.toList
def keepX (P : Pol) (x : Snp) (r : List Snp) : Bool := decide ((r.length : Int) + 1 ≤ P.a) || tagd P x || mk1 spD P.b x r || mk1 spW P.c x r || mk1 spM P.d x r
def keepAt (P : Pol) (S : List Snp) (i : Nat) : Bool := keepX P (sn S i) (S.drop (i + 1))
theorem keepAt_drop (P : Pol) (S : List Snp) (n i : Nat) : keepAt P (S.drop n) i = keepAt P S (n + i) := by
  unfold keepAt
  rw [sn_drop, List.drop_drop, show n + (i + 1) = n + i + 1 by omega]
/-- Is there a number below nought? -/
def polBad (P : Pol) : Prop := P.a < 0 ∨ P.b < 0 ∨ P.c < 0 ∨ P.d < 0
/-- The names of those of the first k that go. -/
def goneK (P : Pol) (S : List Snp) : Nat → List ByteArray
  | 0 => []
  | k + 1 => goneK P S k ++ (if keepAt P S k then [] else [(sn S k).id])
theorem goneK_le (P : Pol) (S : List Snp) (k : Nat) : (goneK P S k).length ≤ k := by
  induction k with
  | zero => exact Nat.le_refl _
  | succ k ih => unfold goneK; rw [List.length_append]; split <;> simp <;> omega
theorem goneK_nil {P : Pol} {S : List Snp} (k : Nat) (h : ∀ i, i < k → keepAt P S i = true) : goneK P S k = [] := by
  induction k with
  | zero => rfl
  | succ k ih => unfold goneK; rw [ih (fun i hi => h i (by omega)), if_pos (h k (by omega))]; rfl
theorem goneK_pre (P : Pol) (S : List Snp) (j k : Nat) (h : j ≤ k) : ∃ r, goneK P S k = goneK P S j ++ r := by
  induction k with
  | zero => obtain rfl : j = 0 := by omega
            exact ⟨[], by simp⟩
  | succ k ih =>
    by_cases e : j = k + 1
    · subst e; exact ⟨[], by simp⟩
    · obtain ⟨r, hr⟩ := ih (by omega)
      refine ⟨r ++ (if keepAt P S k then [] else [(sn S k).id]), ?_⟩
      rw [← List.append_assoc, ← hr]; rfl
/-- Those of the first k that stay. -/
def leftK (P : Pol) (S : List Snp) : Nat → List Snp
  | 0 => []
  | k + 1 => leftK P S k ++ (if keepAt P S k then [sn S k] else [])
theorem leftK_le (P : Pol) (S : List Snp) (k : Nat) : (leftK P S k).length ≤ k := by
  induction k with
  | zero => exact Nat.le_refl _
  | succ k ih => unfold leftK; rw [List.length_append]; split <;> simp <;> omega
def leftL (P : Pol) : List Snp → List Snp
  | [] => []
  | x :: r => if keepX P x r then x :: leftL P r else leftL P r
theorem leftL_cons (P : Pol) (x : Snp) (r : List Snp) : leftL P (x :: r) = if keepX P x r then x :: leftL P r else leftL P r := rfl
theorem leftK_succ (P : Pol) (S : List Snp) (k : Nat) : leftK P S (k + 1) = leftK P S k ++ (if keepX P (sn S k) (S.drop (k + 1)) then [sn S k] else []) := rfl
theorem leftL_sub (P : Pol) (S : List Snp) : (leftL P S).Sublist S := by
  induction S with
  | nil => exact List.Sublist.refl _
  | cons x r ih =>
    rw [leftL_cons]
    split
    · exact ih.cons_cons x
    · exact ih.cons x
theorem left_eq (P : Pol) (S : List Snp) (k : Nat) (hk : k ≤ S.length) : leftK P S k ++ leftL P (S.drop k) = leftL P S := by
  induction k with
  | zero => rfl
  | succ k ih =>
    rw [← ih (by omega), drop_sn (show k < S.length by omega)]
    rw [leftK_succ, leftL_cons, List.append_assoc]
    congr 1
    split <;> rfl
theorem left_all (P : Pol) (S : List Snp) : leftK P S S.length = leftL P S := by
  have := left_eq P S S.length (Nat.le_refl _)
  rw [List.drop_of_length_le (Nat.le_refl _)] at this
  simpa [leftL] using this

theorem spans_sub {sp : Int → Int} {r r' : List Snp} (h : r'.Sublist r) : (spans sp r').Sublist (spans sp r) := h.map _
theorem OkS.sub {S S' : List Snp} (h : OkS S) (hs : S'.Sublist S) : OkS S' := okS_of (fun x hx => h.all x (hs.subset hx)) (h.srt.sublist hs)
theorem mk1_sub {sp : Int → Int} (h : Span sp) {c : Int} {x : Snp} {r r' : List Snp} (ho : OkS (x :: r)) (hr : r'.Sublist r) (hm : mk1 sp c x r = true) : mk1 sp c x r' = true := by
  unfold mk1 at hm ⊢
  simp only [Bool.and_eq_true, decide_eq_true_eq] at hm ⊢
  have hs := spans_srt h ho
  refine ⟨newI_sub hm.1 hs (spans_sub hr), ?_⟩
  have h2 := DI_sub (List.pairwise_cons.1 hs).2 (spans_sub hr (sp := sp))
  have h3 : DI (List.map (fun x => sp x.time) r) = DI (spans sp r) := rfl
  omega
theorem keepX_sub {P : Pol} {x : Snp} {r r' : List Snp} (ho : OkS (x :: r)) (hr : r'.Sublist r) (hm : keepX P x r = true) : keepX P x r' = true := by
  unfold keepX at hm ⊢
  simp only [Bool.or_eq_true, decide_eq_true_eq] at hm ⊢
  rcases hm with (((h | h) | h) | h) | h
  · have := hr.length_le; exact .inl (.inl (.inl (.inl (by omega))))
  · exact .inl (.inl (.inl (.inr h)))
  · exact .inl (.inl (.inr (mk1_sub span_D ho hr h)))
  · exact .inl (.inr (mk1_sub span_W ho hr h))
  · exact .inr (mk1_sub span_M ho hr h)
/-- What is kept is kept again. -/
theorem left_again (P : Pol) (S : List Snp) (ho : OkS S) : ∀ i, i < (leftL P S).length → keepAt P (leftL P S) i = true := by
  induction S with
  | nil => intro i hi; cases hi
  | cons x r ih =>
    have hor : OkS r := ho.sub (List.sublist_cons_self _ _)
    intro i hi
    rw [leftL_cons] at hi ⊢
    by_cases h : keepX P x r = true
    · rw [if_pos h] at hi ⊢
      cases i with
      | zero => exact keepX_sub ho (leftL_sub P r) h
      | succ i =>
        have := ih hor i (by simpa using hi)
        unfold keepAt at this ⊢
        simpa [sn] using this
    · rw [if_neg h] at hi ⊢
      exact ih hor i hi
/-- A wider policy keeps what is kept. -/
theorem keepX_wide {P P' : Pol} {x : Snp} {r : List Snp} (ha : P.a ≤ P'.a) (hb : P.b ≤ P'.b) (hc : P.c ≤ P'.c) (hd : P.d ≤ P'.d) (hn : P.n ≤ P'.n) (hm : ∀ i, i < P.n → P'.m i = P.m i) (h : keepX P x r = true) : keepX P' x r = true := by
  unfold keepX tagd mk1 at h ⊢
  simp only [Bool.or_eq_true, Bool.and_eq_true, decide_eq_true_eq, List.any_eq_true, List.mem_range] at h ⊢
  rcases h with (((h | ⟨i, hi, he⟩) | h) | h) | h
  · exact .inl (.inl (.inl (.inl (by omega))))
  · exact .inl (.inl (.inl (.inr ⟨i, by omega, by rw [hm i hi]; exact he⟩)))
  · exact .inl (.inl (.inr ⟨h.1, by omega⟩))
  · exact .inl (.inr ⟨h.1, by omega⟩)
  · exact .inr ⟨h.1, by omega⟩
/-- The newest one. -/
theorem keepX_last {P : Pol} {x : Snp} (h : 0 < P.a + P.b + P.c + P.d) (hp : ¬ polBad P) : keepX P x [] = true := by
  unfold polBad at hp
  unfold keepX mk1
  simp only [spans, List.map_nil, newI, DI, List.length_nil, Bool.true_and, Bool.or_eq_true, decide_eq_true_eq]
  have : 1 ≤ P.a ∨ 0 < P.b ∨ 0 < P.c ∨ 0 < P.d := by omega
  rcases this with h | h | h | h
  · exact .inl (.inl (.inl (.inl (by omega))))
  · exact .inl (.inl (.inr (by omega)))
  · exact .inl (.inr (by omega))
  · exact .inr (by omega)
/-! ## how many are kept -/
def marks (sp : Int → Int) (c : Int) : List Snp → Nat
  | [] => 0
  | x :: r => marks sp c r + (if mk1 sp c x r then 1 else 0)
theorem marks_eq (sp : Int → Int) (c : Int) (hc : 0 ≤ c) (S : List Snp) : marks sp c S = min (DI (spans sp S)) c.toNat := by
  induction S with
  | nil => simp [marks, spans, DI]
  | cons x r ih =>
    show marks sp c r + _ = _
    rw [ih]
    show _ = min (DI (sp x.time :: spans sp r)) _
    rw [DI_cons]
    unfold mk1
    by_cases h1 : newI (sp x.time) (spans sp r) = true
    · by_cases h2 : (DI (spans sp r) : Int) < c
      · simp only [h1, h2, decide_true, Bool.and_self, if_true]; omega
      · simp only [h1, h2, decide_false, Bool.and_false, Bool.false_eq_true, if_false, if_true]; omega
    · rw [if_neg (by simp [h1]), if_neg h1]; rfl
def lasts (a : Int) : List Snp → Nat
  | [] => 0
  | _ :: r => lasts a r + (if (r.length : Int) + 1 ≤ a then 1 else 0)
theorem lasts_eq (a : Int) (ha : 0 ≤ a) (S : List Snp) : lasts a S = min S.length a.toNat := by
  induction S with
  | nil => simp [lasts]
  | cons x r ih =>
    show lasts a r + _ = _
    rw [ih, List.length_cons]
    split <;> omega
/-- Kept, but not by a tag. -/
def untL (P : Pol) : List Snp → Nat
  | [] => 0
  | x :: r => untL P r + (if keepX P x r && !tagd P x then 1 else 0)
theorem untL_le (P : Pol) (S : List Snp) : untL P S ≤ lasts P.a S + marks spD P.b S + marks spW P.c S + marks spM P.d S := by
  induction S with
  | nil => simp [untL]
  | cons x r ih =>
    show untL P r + _ ≤ (lasts P.a r + _) + (marks spD P.b r + _) + (marks spW P.c r + _) + (marks spM P.d r + _)
    have : (if keepX P x r && !tagd P x then 1 else 0) ≤ (if (r.length : Int) + 1 ≤ P.a then 1 else 0) + (if mk1 spD P.b x r then 1 else 0) + (if mk1 spW P.c x r then 1 else 0) + (if mk1 spM P.d x r then 1 else 0) := by
      by_cases h : (keepX P x r && !tagd P x) = true
      · rw [if_pos h]
        unfold keepX at h
        cases h1 : tagd P x
        · by_cases h2 : (r.length : Int) + 1 ≤ P.a
          · rw [if_pos h2]; omega
          · cases h3 : mk1 spD P.b x r
            · cases h4 : mk1 spW P.c x r
              · cases h5 : mk1 spM P.d x r
                · rw [h1, h3, h4, h5] at h; simp [h2] at h
                · simp
              · simp; omega
            · simp; omega
        · rw [h1] at h; simp at h
      · rw [if_neg h]; omega
    omega
theorem unt_most (P : Pol) (S : List Snp) (hp : ¬ polBad P) (hS : S.length ≤ 25) : (untL P S : Int) ≤ min P.a 25 + min P.b 25 + min P.c 25 + min P.d 25 := by
  unfold polBad at hp
  have h := untL_le P S
  rw [lasts_eq _ (by omega), marks_eq _ _ (by omega), marks_eq _ _ (by omega), marks_eq _ _ (by omega)] at h
  have l1 := DI_le (spans spD S)
  have l2 := DI_le (spans spW S)
  have l3 := DI_le (spans spM S)
  simp only [spans, List.length_map] at l1 l2 l3
  simp only [spans] at h
  omega
/-- Of the first k. -/
def untK (P : Pol) (S : List Snp) : Nat → Nat
  | 0 => 0
  | k + 1 => untK P S k + (if keepAt P S k && !tagd P (sn S k) then 1 else 0)
theorem unt_eq (P : Pol) (S : List Snp) (k : Nat) (hk : k ≤ S.length) : untK P S k + untL P (S.drop k) = untL P S := by
  induction k with
  | zero => simp [untK]
  | succ k ih =>
    rw [← ih (by omega), drop_sn (show k < S.length by omega)]
    show untK P S k + (if keepX P (sn S k) (S.drop (k + 1)) && !tagd P (sn S k) then 1 else 0) + untL P (S.drop (k + 1)) = untK P S k + (untL P (S.drop (k + 1)) + _)
    omega
theorem unt_all (P : Pol) (S : List Snp) : untK P S S.length = untL P S := by
  have := unt_eq P S S.length (Nat.le_refl _)
  rw [List.drop_of_length_le (Nat.le_refl _)] at this
  simpa [untL] using this
end Go.Proofs.Ytcblcjbflgepoaa
