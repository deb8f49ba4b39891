/- One stream read in two ways: what is read at one is read at the other, up to where it is no longer good. Plain. Conditions: none. -/
import Derived.Test.YtjnglahjngiofaaInfUp
namespace Go.Proofs.Ytjnglahjngiofaa
open Go.RowKit

/-- What is read at σ is read at the other place, too: all of it if what comes after is good; else an error. -/
def Sim (φ : Sg → Sg) (good : Sg → Prop) (e : Nat) {α : Type} (x x' : Rs α) : Prop := ∀ a σ1, x = .ok (a, σ1) → (good σ1 ∧ x' = .ok (a, φ σ1)) ∨ (¬ good σ1 ∧ x' = .error e)
section
variable {φ : Sg → Sg} {good : Sg → Prop} {e : Nat}
theorem Sim.err {α : Type} (k : Nat) (x' : Rs α) : Sim φ good e (.error k : Rs α) x' := fun _ _ h => by cases h
theorem Sim.ret {α : Type} (a : α) (σ : Sg) (h : good σ) : Sim φ good e (.ok (a, σ) : Rs α) (.ok (a, φ σ)) := fun _ _ h2 => by
  injection h2 with h2; injection h2 with h3 h2; subst h2; subst h3; exact .inl ⟨h, rfl⟩
theorem Sim.then {α β : Type} {x x' : Rs α} {f f' : α → Sg → Rs β} (hg : ∀ σ σ', good σ' → σ'.n ≤ σ.n → σ.out ≤ σ'.out → good σ) (h : Sim φ good e x x') (hu : ∀ a σ1, Up (f a σ1) σ1)
    (k : ∀ a σ1, x = .ok (a, σ1) → good σ1 → x' = .ok (a, φ σ1) → Sim φ good e (f a σ1) (f' a (φ σ1))) : Sim φ good e (thenR x f) (thenR x' f') := fun b σ2 hb => by
  obtain ⟨a, σ1, h1, h2⟩ := thenR_inv hb
  rcases h a σ1 h1 with ⟨h3, h4⟩ | ⟨h3, h4⟩
  · have := k a σ1 h1 h3 h4 b σ2 h2
    rw [h4]
    exact this
  · refine .inr ⟨fun h5 => h3 (hg σ1 σ2 h5 (hu a σ1 b σ2 h2).1 (hu a σ1 b σ2 h2).2), ?_⟩
    rw [h4]; rfl
end
/-- k whole bytes. -/
def takeM (k : Nat) (σ : Sg) : Rs (List UInt8) := if σ.n < 8 * k then .error 6 else .ok (bytesX σ.X k, ⟨σ.X / 2 ^ (8 * k), σ.n - 8 * k, σ.out⟩)
theorem takeM_up (k : Nat) (σ : Sg) : Up (takeM k σ) σ := fun a σ' h => by
  unfold takeM at h
  split at h
  · cases h
  · injection h with h; injection h with _ h; subst h; exact ⟨Nat.sub_le _ _, Nat.le_refl _⟩
theorem storedM_take (most : Nat) (σ : Sg) : storedM most σ = thenR (bitsM 16 (evenM σ)) fun a σ1 => thenR (bitsM 16 σ1) fun b σ2 => if a + b ≠ 65535 then .error 3 else thenR (takeM a σ2) fun l σ3 => thenR (growM most a σ3) fun _ σ4 => .ok (l, σ4) := by
  unfold storedM
  congr 1
  funext a σ1
  congr 1
  funext b σ2
  split
  · rfl
  unfold takeM
  split <;> rfl
/-- Two ways of reading. -/
structure Way (φ : Sg → Sg) (good : Sg → Prop) (e most most' : Nat) : Prop where
  mono : ∀ σ σ', good σ' → σ'.n ≤ σ.n → σ.out ≤ σ'.out → good σ
  bits : ∀ k σ, good σ → Sim φ good e (bitsM k σ) (bitsM k (φ σ))
  sym : ∀ L c σ, (∀ i, i < c → L i ≤ 15) → good σ → Sim φ good e (symM L c σ) (symM L c (φ σ))
  grow : ∀ k σ, good σ → Sim φ good e (growM most k σ) (growM most' k (φ σ))
  out : ∀ σ, (φ σ).out = σ.out
  even : ∀ σ, good σ → φ (evenM σ) = evenM (φ σ) ∧ good (evenM σ)
  take : ∀ k σ, good σ → Sim φ good e (takeM k σ) (takeM k (φ σ))
/-- A symbol has a bit at least, and is one that has a code. -/
theorem symM_less {L : Nat → Nat} {c : Nat} {σ σ' : Sg} {a : Nat} (h : symM L c σ = .ok (a, σ')) : σ'.n < σ.n ∧ a < c := by
  classical
  unfold symM at h
  by_cases h0 : (nextR L c σ.X σ.n).2.1 = 0
  · rw [if_pos h0] at h
    by_cases hex : ∃ r : Nat × Nat × Nat, NextOut (bitsF L c) L (InAll L c) σ.X σ.n 0 r.1 r.2.1 r.2.2
    · have e : nextR L c σ.X σ.n = Classical.choose hex := by unfold nextR; rw [dif_pos hex]
      obtain ⟨h1, h2, h3⟩ := Classical.choose_spec hex
      rw [e] at h0 h
      injection h with h; injection h with h4 h
      subst h4 h
      rcases h3 with ⟨b1, b2, _⟩ | ⟨b0, b2, b3, _⟩ | ⟨b0, b2, b3⟩
      · rw [h0] at b2; cases b2
      · rw [h0] at b3; cases b3
      · exact ⟨by show σ.n - _ < σ.n; omega, b2.1⟩
    · have e : nextR L c σ.X σ.n = (0, 3, 1) := by unfold nextR; rw [dif_neg hex]
      rw [e] at h0
      cases h0
  · rw [if_neg h0] at h
    cases h
theorem tokStep_less {L : Nat → Nat} {c : Nat} {D : Nat → Nat} {d most : Nat} {σ σ' : Sg} {r : Option Tok} (h : tokStep L c D d most σ = .ok (r, σ')) : σ'.n < σ.n := by
  unfold tokStep at h
  obtain ⟨s, σ1, h1, h2⟩ := thenR_inv h
  refine Nat.lt_of_le_of_lt ?_ (symM_less h1).1
  refine (?_ : Up _ σ1) r σ' h2 |>.1
  clear h h2
  split
  · exact Up.ret _ _
  split
  · exact (growM_up _ _ _).then fun _ σ2 => Up.ret _ _
  split
  · exact Up.err _ _
  refine (bitsM_up _ _).then fun b σ2 => (symM_up _ _ _).then fun q σ3 => ?_
  split
  · exact Up.err _ _
  refine (bitsM_up _ _).then fun g σ4 => ?_
  split
  · exact Up.err _ _
  exact (growM_up _ _ _).then fun _ σ5 => Up.ret _ _
theorem lenStep_less {K : Nat → Nat} {σ σ' : Sg} {l r : List Nat} (h : lenStep K σ l = .ok (r, σ')) : σ'.n < σ.n := by
  unfold lenStep at h
  obtain ⟨s, σ1, h1, h2⟩ := thenR_inv h
  refine Nat.lt_of_le_of_lt ?_ (symM_less h1).1
  refine (?_ : Up _ σ1) r σ' h2 |>.1
  clear h h2
  split
  · split
    · exact Up.err _ _
    · exact (bitsM_up _ _).then fun _ _ => Up.ret _ _
  split
  · exact (bitsM_up _ _).then fun _ _ => Up.ret _ _
  split
  · exact (bitsM_up _ _).then fun _ _ => Up.ret _ _
  exact Up.ret _ _
/-- All lengths that are told are lengths. -/
theorem lenStep_15 {K : Nat → Nat} {σ σ' : Sg} {l r : List Nat} (h : lenStep K σ l = .ok (r, σ')) (hl : ∀ y ∈ l, y ≤ 15) : ∀ y ∈ r, y ≤ 15 := by
  unfold lenStep at h
  obtain ⟨s, σ1, h1, h2⟩ := thenR_inv h
  have hs := (symM_less h1).2
  have happ : ∀ (n v : Nat), v ≤ 15 → ∀ y ∈ l ++ List.replicate n v, y ≤ 15 := fun n v hv y hy => by
    rcases List.mem_append.1 hy with hy | hy
    · exact hl y hy
    · rw [List.eq_of_mem_replicate hy]; exact hv
  split at h2
  · split at h2
    · cases h2
    · rename_i hne
      obtain ⟨b, σ2, h3, h4⟩ := thenR_inv h2
      injection h4 with h4; injection h4 with h5 h4; subst h5
      refine happ _ _ ?_
      obtain ⟨x, hx⟩ : ∃ x, l.getLast? = some x := by
        cases h : l.getLast? with
        | none => rw [List.getLast?_eq_none_iff] at h; exact absurd h hne
        | some x => exact ⟨x, rfl⟩
      have hm := List.mem_of_getLast? hx
      rw [List.getLastD_eq_getLast?, hx]
      exact hl x hm
  split at h2
  · obtain ⟨b, σ2, h3, h4⟩ := thenR_inv h2
    injection h4 with h4; injection h4 with h5 h4; subst h5
    exact happ _ _ (by decide)
  split at h2
  · obtain ⟨b, σ2, h3, h4⟩ := thenR_inv h2
    injection h4 with h4; injection h4 with h5 h4; subst h5
    exact happ _ _ (by decide)
  injection h2 with h4; injection h4 with h5 h4; subst h5
  intro y hy
  rcases List.mem_append.1 hy with hy | hy
  · exact hl y hy
  · rw [List.mem_singleton.1 hy]; omega
theorem lenLoop_15 {K : Nat → Nat} {need : Nat} : ∀ (f : Nat) {σ σ' : Sg} {l r : List Nat}, lenLoop K need f σ l = .ok (r, σ') → (∀ y ∈ l, y ≤ 15) → ∀ y ∈ r, y ≤ 15 := by
  intro f
  induction f with
  | zero => intro σ σ' l r h; cases h
  | succ f ih =>
    intro σ σ' l r h hl
    have h' : (if l.length < need then thenR (lenStep K σ l) fun l' σ1 => lenLoop K need f σ1 l' else .ok (l, σ)) = .ok (r, σ') := h
    split at h'
    · obtain ⟨l', σ1, h1, h2⟩ := thenR_inv h'
      exact ih h2 (lenStep_15 h1 hl)
    · injection h' with h'; injection h' with h3 h'; subst h3; exact hl
/-- The first codes' lengths are below eight. -/
theorem firstM_7 : ∀ (r : List Nat) {m m' : Nat → Int} {σ σ' : Sg}, firstM r m σ = .ok (m', σ') → (∀ i, 0 ≤ m i ∧ m i ≤ 7) → ∀ i, 0 ≤ m' i ∧ m' i ≤ 7 := by
  intro r
  induction r with
  | nil => intro m m' σ σ' h hm; injection h with h; injection h with h2 h; subst h2; exact hm
  | cons s r ih =>
    intro m m' σ σ' h hm
    obtain ⟨v, σ1, h1, h2⟩ := thenR_inv (x := bitsM 3 σ) h
    have hv := (bitsM_out h1).2
    refine ih h2 fun i => ?_
    split
    · have : (2 : Nat) ^ 3 = 8 := by decide
      omega
    · exact hm i
theorem dynM_15 {σ σ' : Sg} {r : List Nat × Nat} (h : dynM σ = .ok (r, σ')) : ∀ y ∈ r.1, y ≤ 15 := by
  unfold dynM at h
  obtain ⟨a, σ1, h1, h⟩ := thenR_inv h
  obtain ⟨b, σ2, h2, h⟩ := thenR_inv h
  obtain ⟨c, σ3, h3, h⟩ := thenR_inv h
  split at h
  · cases h
  obtain ⟨m, σ4, h4, h⟩ := thenR_inv h
  obtain ⟨_, σ5, h5, h⟩ := thenR_inv h
  obtain ⟨l, σ6, h6, h⟩ := thenR_inv h
  split at h
  · cases h
  injection h with h; injection h with h7 h; subst h7
  exact lenLoop_15 _ h6 (fun y hy => by cases hy)
theorem lens_15 (m : Nat → Int) (c : Nat) (h : ∀ i, m i ≤ 15) : ∀ i, i < c → lens m i ≤ 15 := fun i _ => by
  unfold lens
  have := h i
  omega
theorem lenF_15 (l : List Nat) (h : ∀ y ∈ l, y ≤ 15) (i : Nat) : lenF l i ≤ 15 := by
  unfold lenF
  rcases Nat.lt_or_ge i l.length with hi | hi
  · have e : l.getD i 0 = l[i] := by simp [List.getD, hi]
    rw [e]
    have := h _ (List.getElem_mem hi)
    omega
  · have e : l.getD i 0 = 0 := by simp [List.getD, hi]
    rw [e]
    decide
section
variable {φ : Sg → Sg} {good : Sg → Prop} {e most most' : Nat}
theorem Way.check (_ : Way φ good e most most') (ok : Prop) [Decidable ok] (k : Nat) (σ : Sg) (h : good σ) : Sim φ good e (checkM ok k σ) (checkM ok k (φ σ)) := by
  unfold checkM
  split
  · exact Sim.ret _ _ h
  · exact Sim.err _ _
theorem Way.tok (W : Way φ good e most most') (L : Nat → Nat) (c : Nat) (D : Nat → Nat) (d : Nat) (hL : ∀ i, i < c → L i ≤ 15) (hD : ∀ i, i < d → D i ≤ 15) (σ : Sg) (h : good σ) :
    Sim φ good e (tokStep L c D d most σ) (tokStep L c D d most' (φ σ)) := by
  unfold tokStep
  refine Sim.then W.mono (W.sym L c σ hL h) (fun s σ1 => ?_) (fun s σ1 _ g1 _ => ?_)
  · split
    · exact Up.ret _ _
    split
    · exact (growM_up _ _ _).then fun _ σ2 => Up.ret _ _
    split
    · exact Up.err _ _
    refine (bitsM_up _ _).then fun b σ2 => (symM_up _ _ _).then fun q σ3 => ?_
    split
    · exact Up.err _ _
    refine (bitsM_up _ _).then fun g σ4 => ?_
    split
    · exact Up.err _ _
    exact (growM_up _ _ _).then fun _ σ5 => Up.ret _ _
  split
  · exact Sim.ret _ _ g1
  split
  · exact Sim.then W.mono (W.grow _ _ g1) (fun _ _ => Up.ret _ _) fun _ σ2 _ g2 _ => Sim.ret _ _ g2
  split
  · exact Sim.err _ _
  refine Sim.then W.mono (W.bits _ _ g1) (fun b σ2 => (symM_up _ _ _).then fun q σ3 => ?_) (fun b σ2 _ g2 _ => ?_)
  · split
    · exact Up.err _ _
    refine (bitsM_up _ _).then fun g σ4 => ?_
    split
    · exact Up.err _ _
    exact (growM_up _ _ _).then fun _ σ5 => Up.ret _ _
  refine Sim.then W.mono (W.sym _ _ _ hD g2) (fun q σ3 => ?_) (fun q σ3 _ g3 _ => ?_)
  · split
    · exact Up.err _ _
    refine (bitsM_up _ _).then fun g σ4 => ?_
    split
    · exact Up.err _ _
    exact (growM_up _ _ _).then fun _ σ5 => Up.ret _ _
  split
  · exact Sim.err _ _
  refine Sim.then W.mono (W.bits _ _ g3) (fun g σ4 => ?_) (fun g σ4 _ g4 _ => ?_)
  · split
    · exact Up.err _ _
    exact (growM_up _ _ _).then fun _ σ5 => Up.ret _ _
  rw [W.out]
  split
  · exact Sim.err _ _
  exact Sim.then W.mono (W.grow _ _ g4) (fun _ _ => Up.ret _ _) fun _ σ5 _ g5 _ => Sim.ret _ _ g5
theorem Way.toks (W : Way φ good e most most') (L : Nat → Nat) (c : Nat) (D : Nat → Nat) (d : Nat) (hL : ∀ i, i < c → L i ≤ 15) (hD : ∀ i, i < d → D i ≤ 15) : ∀ (f f' : Nat) (σ : Sg) (S : List Tok), good σ → (φ σ).n < f' →
    Sim φ good e (tokM L c D d most f σ S) (tokM L c D d most' f' (φ σ) S) := by
  intro f
  induction f with
  | zero => intro f' σ S _ _; exact Sim.err _ _
  | succ f ih =>
    intro f' σ S h hf
    obtain ⟨f', rfl⟩ : ∃ g, f' = g + 1 := ⟨f' - 1, by omega⟩
    show Sim φ good e (thenR _ _) (thenR _ _)
    refine Sim.then W.mono (W.tok L c D d hL hD σ h) (fun t σ1 => ?_) (fun t σ1 _ g1 h1 => ?_)
    · cases t with
      | none => exact Up.ret _ _
      | some t => exact tokM_up _ _ _ _ _ _ _ _
    · cases t with
      | none => exact Sim.ret _ _ g1
      | some t =>
        have := tokStep_less h1
        exact ih f' σ1 _ g1 (by omega)
theorem Way.tokens (W : Way φ good e most most') (m : Nat → Int) (c : Nat) (md : Nat → Int) (d : Nat) (hL : ∀ i, m i ≤ 15) (hD : ∀ i, md i ≤ 15) (σ : Sg) (h : good σ) :
    Sim φ good e (tokensM m c md d most σ) (tokensM m c md d most' (φ σ)) := by
  unfold tokensM
  refine Sim.then W.mono (W.check _ _ _ h) (fun _ _ => (checkM_up _ _ _).then fun _ _ => tokM_up _ _ _ _ _ _ _ _) (fun _ σ1 _ g1 _ => ?_)
  refine Sim.then W.mono (W.check _ _ _ g1) (fun _ _ => tokM_up _ _ _ _ _ _ _ _) (fun _ σ2 _ g2 _ => ?_)
  exact W.toks _ _ _ _ (lens_15 m c hL) (lens_15 md d hD) _ _ _ _ g2 (Nat.lt_succ_self _)
theorem Way.stored (W : Way φ good e most most') (σ : Sg) (h : good σ) : Sim φ good e (storedM most σ) (storedM most' (φ σ)) := by
  rw [storedM_take, storedM_take]
  obtain ⟨e1, g0⟩ := W.even σ h
  rw [← e1]
  refine Sim.then W.mono (W.bits _ _ g0) (fun a σ1 => (bitsM_up _ _).then fun b σ2 => ?_) (fun a σ1 _ g1 _ => ?_)
  · split
    · exact Up.err _ _
    exact (takeM_up _ _).then fun l σ3 => (growM_up _ _ _).then fun _ _ => Up.ret _ _
  refine Sim.then W.mono (W.bits _ _ g1) (fun b σ2 => ?_) (fun b σ2 _ g2 _ => ?_)
  · split
    · exact Up.err _ _
    exact (takeM_up _ _).then fun l σ3 => (growM_up _ _ _).then fun _ _ => Up.ret _ _
  split
  · exact Sim.err _ _
  refine Sim.then W.mono (W.take _ _ g2) (fun l σ3 => (growM_up _ _ _).then fun _ _ => Up.ret _ _) (fun l σ3 _ g3 _ => ?_)
  exact Sim.then W.mono (W.grow _ _ g3) (fun _ _ => Up.ret _ _) fun _ σ4 _ g4 _ => Sim.ret _ _ g4
theorem Way.first (W : Way φ good e most most') : ∀ (r : List Nat) (m : Nat → Int) (σ : Sg), good σ → Sim φ good e (firstM r m σ) (firstM r m (φ σ)) := by
  intro r
  induction r with
  | nil => intro m σ h; exact Sim.ret _ _ h
  | cons s r ih =>
    intro m σ h
    exact Sim.then W.mono (W.bits 3 σ h) (fun v σ1 => firstM_up _ _ _) fun v σ1 _ g1 _ => ih _ _ g1
theorem Way.len (W : Way φ good e most most') (K : Nat → Nat) (hK : ∀ i, i < 19 → K i ≤ 15) (σ : Sg) (l : List Nat) (h : good σ) : Sim φ good e (lenStep K σ l) (lenStep K (φ σ) l) := by
  unfold lenStep
  refine Sim.then W.mono (W.sym K 19 σ hK h) (fun s σ1 => ?_) (fun s σ1 _ g1 _ => ?_)
  · split
    · split
      · exact Up.err _ _
      · exact (bitsM_up _ _).then fun _ _ => Up.ret _ _
    split
    · exact (bitsM_up _ _).then fun _ _ => Up.ret _ _
    split
    · exact (bitsM_up _ _).then fun _ _ => Up.ret _ _
    exact Up.ret _ _
  split
  · split
    · exact Sim.err _ _
    · exact Sim.then W.mono (W.bits _ _ g1) (fun _ _ => Up.ret _ _) fun _ σ2 _ g2 _ => Sim.ret _ _ g2
  split
  · exact Sim.then W.mono (W.bits _ _ g1) (fun _ _ => Up.ret _ _) fun _ σ2 _ g2 _ => Sim.ret _ _ g2
  split
  · exact Sim.then W.mono (W.bits _ _ g1) (fun _ _ => Up.ret _ _) fun _ σ2 _ g2 _ => Sim.ret _ _ g2
  exact Sim.ret _ _ g1
theorem Way.lens (W : Way φ good e most most') (K : Nat → Nat) (hK : ∀ i, i < 19 → K i ≤ 15) (need : Nat) : ∀ (f f' : Nat) (σ : Sg) (l : List Nat), good σ → (φ σ).n < f' → Sim φ good e (lenLoop K need f σ l) (lenLoop K need f' (φ σ) l) := by
  intro f
  induction f with
  | zero => intro f' σ S _ _; exact Sim.err _ _
  | succ f ih =>
    intro f' σ l h hf
    obtain ⟨f', rfl⟩ : ∃ g, f' = g + 1 := ⟨f' - 1, by omega⟩
    show Sim φ good e (if l.length < need then thenR _ _ else _) (if l.length < need then thenR _ _ else _)
    split
    · refine Sim.then W.mono (W.len K hK σ l h) (fun l' σ1 => lenLoop_up _ _ _ _ _) (fun l' σ1 _ g1 h1 => ?_)
      have := lenStep_less h1
      exact ih f' σ1 _ g1 (by omega)
    · exact Sim.ret _ _ h
theorem Way.dyn (W : Way φ good e most most') (σ : Sg) (h : good σ) : Sim φ good e (dynM σ) (dynM (φ σ)) := by
  unfold dynM
  have u3 : ∀ (a b c : Nat) (σ3 : Sg), Up (if 286 < a + 257 ∨ 30 < b + 1 then .error 3
    else thenR (firstM (ordL.take (c + 4)) (fun _ => 0) σ3) fun m σ4 => thenR (fitM m 19 σ4) fun _ σ5 =>
      thenR (lenLoop (_root_.Go.Proofs.Ytjnglahjngiofaa.lens m) (a + 257 + (b + 1)) (σ5.n + 1) σ5 []) fun l σ6 =>
        if a + 257 + (b + 1) < l.length ∨ l.getD 256 0 = 0 then .error 3 else .ok ((l, a + 257), σ6)) σ3 := by
    intro a b c σ3
    split
    · exact Up.err _ _
    refine (firstM_up _ _ _).then fun m σ4 => (checkM_up _ _ _).then fun _ σ5 => (lenLoop_up _ _ _ _ _).then fun l σ6 => ?_
    split
    · exact Up.err _ _
    · exact Up.ret _ _
  refine Sim.then W.mono (W.bits _ _ h) (fun a σ1 => (bitsM_up _ _).then fun b σ2 => (bitsM_up _ _).then fun c σ3 => u3 a b c σ3) (fun a σ1 _ g1 _ => ?_)
  refine Sim.then W.mono (W.bits _ _ g1) (fun b σ2 => (bitsM_up _ _).then fun c σ3 => u3 a b c σ3) (fun b σ2 _ g2 _ => ?_)
  refine Sim.then W.mono (W.bits _ _ g2) (fun c σ3 => u3 a b c σ3) (fun c σ3 _ g3 _ => ?_)
  split
  · exact Sim.err _ _
  have u6 : ∀ (l : List Nat) (σ6 : Sg), Up (if a + 257 + (b + 1) < l.length ∨ l.getD 256 0 = 0 then .error 3 else .ok ((l, a + 257), σ6) : Rs (List Nat × Nat)) σ6 := by
    intro l σ6
    split
    · exact Up.err _ _
    · exact Up.ret _ _
  refine Sim.then W.mono (W.first _ _ _ g3) (fun m σ4 => (checkM_up _ _ _).then fun _ σ5 => (lenLoop_up _ _ _ _ _).then fun l σ6 => u6 l σ6) (fun m σ4 hm g4 _ => ?_)
  refine Sim.then W.mono (W.check _ _ _ g4) (fun _ σ5 => (lenLoop_up _ _ _ _ _).then fun l σ6 => u6 l σ6) (fun _ σ5 _ g5 _ => ?_)
  have h7 := firstM_7 _ hm (fun i => ⟨Int.le_refl 0, by decide⟩)
  refine Sim.then W.mono (W.lens _ (lens_15 m 19 fun i => by have := (h7 i).2; omega) _ _ _ _ _ g5 (Nat.lt_succ_self _)) (fun l σ6 => u6 l σ6) (fun l σ6 _ g6 _ => ?_)
  split
  · exact Sim.err _ _
  · exact Sim.ret _ _ g6
theorem fixL_15 (i : Nat) : fixL i ≤ 15 := by
  unfold fixL
  split
  · decide
  split
  · decide
  split <;> decide
theorem Way.block (W : Way φ good e most most') (σ : Sg) (h : good σ) : Sim φ good e (blockM most σ) (blockM most' (φ σ)) := by
  unfold blockM
  have u2 : ∀ (last k : Nat) (σ2 : Sg), Up (if k = 0 then thenR (storedM most σ2) fun s σ3 => .ok ((last, (⟨0, s, []⟩ : Bk)), σ3)
    else if k = 1 then thenR (tokensM fixL 288 (fun _ => 5) 32 most σ2) fun S σ3 => .ok ((last, ⟨1, [], S⟩), σ3)
    else if k = 2 then thenR (dynM σ2) fun l σ3 => thenR (tokensM (lenF (l.1.take l.2)) l.2 (lenF (l.1.drop l.2)) (l.1.length - l.2) most σ3) fun S σ4 => .ok ((last, ⟨2, [], S⟩), σ4)
    else .error 3) σ2 := by
    intro last k σ2
    split
    · exact (storedM_up _ _).then fun _ _ => Up.ret _ _
    split
    · exact (tokensM_up _ _ _ _ _ _).then fun _ _ => Up.ret _ _
    split
    · exact (dynM_up _).then fun _ _ => (tokensM_up _ _ _ _ _ _).then fun _ _ => Up.ret _ _
    exact Up.err _ _
  refine Sim.then W.mono (W.bits _ _ h) (fun last σ1 => (bitsM_up _ _).then fun k σ2 => u2 last k σ2) (fun last σ1 _ g1 _ => ?_)
  refine Sim.then W.mono (W.bits _ _ g1) (fun k σ2 => u2 last k σ2) (fun k σ2 _ g2 _ => ?_)
  split
  · exact Sim.then W.mono (W.stored _ g2) (fun _ _ => Up.ret _ _) fun _ _ _ g3 _ => Sim.ret _ _ g3
  split
  · exact Sim.then W.mono (W.tokens _ _ _ _ fixL_15 (fun _ => by decide) _ g2) (fun _ _ => Up.ret _ _) fun _ _ _ g3 _ => Sim.ret _ _ g3
  split
  · refine Sim.then W.mono (W.dyn _ g2) (fun _ _ => (tokensM_up _ _ _ _ _ _).then fun _ _ => Up.ret _ _) fun l σ3 hl g3 _ => ?_
    have h15 := dynM_15 hl
    exact Sim.then W.mono (W.tokens _ _ _ _ (lenF_15 _ fun y hy => h15 y (List.mem_of_mem_take hy)) (lenF_15 _ fun y hy => h15 y (List.mem_of_mem_drop hy)) _ g3) (fun _ _ => Up.ret _ _) fun _ _ _ g4 _ => Sim.ret _ _ g4
  exact Sim.err _ _
theorem bitsM_less {k : Nat} {σ σ' : Sg} {a : Nat} (h : bitsM (k + 1) σ = .ok (a, σ')) : σ'.n < σ.n := by
  unfold bitsM at h
  split at h
  · cases h
  · injection h with h; injection h with _ h; subst h; show σ.n - (k + 1) < σ.n; omega
theorem blockM_less {most : Nat} {σ σ' : Sg} {r : Nat × Bk} (h : blockM most σ = .ok (r, σ')) : σ'.n < σ.n := by
  unfold blockM at h
  obtain ⟨last, σ1, h1, h2⟩ := thenR_inv h
  refine Nat.lt_of_le_of_lt ?_ (bitsM_less h1)
  refine (?_ : Up _ σ1) r σ' h2 |>.1
  clear h h2
  refine (bitsM_up _ _).then fun k σ2 => ?_
  split
  · exact (storedM_up _ _).then fun _ _ => Up.ret _ _
  split
  · exact (tokensM_up _ _ _ _ _ _).then fun _ _ => Up.ret _ _
  split
  · exact (dynM_up _).then fun _ _ => (tokensM_up _ _ _ _ _ _).then fun _ _ => Up.ret _ _
  exact Up.err _ _
theorem Way.blocks (W : Way φ good e most most') : ∀ (f f' : Nat) (σ : Sg) (S : List Bk), good σ → (φ σ).n < f' → Sim φ good e (blocksM most f σ S) (blocksM most' f' (φ σ) S) := by
  intro f
  induction f with
  | zero => intro f' σ S _ _; exact Sim.err _ _
  | succ f ih =>
    intro f' σ S h hf
    obtain ⟨f', rfl⟩ : ∃ g, f' = g + 1 := ⟨f' - 1, by omega⟩
    show Sim φ good e (thenR _ _) (thenR _ _)
    refine Sim.then W.mono (W.block σ h) (fun t σ1 => ?_) (fun t σ1 _ g1 h1 => ?_)
    · split
      · exact blocksM_up _ _ _ _
      · exact Up.ret _ _
    · split
      · have := blockM_less h1
        exact ih f' σ1 _ g1 (by omega)
      · exact Sim.ret _ _ g1
end
end Go.Proofs.Ytjnglahjngiofaa
