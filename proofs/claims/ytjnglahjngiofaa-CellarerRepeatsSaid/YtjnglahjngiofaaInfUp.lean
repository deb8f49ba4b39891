/- The plain reader never goes back, nor does what has come out. Plain. Conditions: none. -/
import Derived.Test.YtjnglahjngiofaaJoinP
namespace Go.Proofs.Ytjnglahjngiofaa
open Go.RowKit

/-- What is read is not given back, and what has come out stays out. -/
def Up {α : Type} (x : Rs α) (σ : Sg) : Prop := ∀ a σ', x = .ok (a, σ') → σ'.n ≤ σ.n ∧ σ.out ≤ σ'.out
theorem Up.err {α : Type} (e : Nat) (σ : Sg) : Up (.error e : Rs α) σ := fun _ _ h => by cases h
theorem Up.ret {α : Type} (a : α) (σ : Sg) : Up (.ok (a, σ) : Rs α) σ := fun _ _ h => by injection h with h; injection h with _ h; subst h; exact ⟨Nat.le_refl _, Nat.le_refl _⟩
theorem Up.then {α β : Type} {x : Rs α} {f : α → Sg → Rs β} {σ : Sg} (h : Up x σ) (k : ∀ a σ1, Up (f a σ1) σ1) : Up (thenR x f) σ := fun b σ' e => by
  obtain ⟨a, σ1, h1, h2⟩ := thenR_inv e
  exact ⟨Nat.le_trans (k a σ1 b σ' h2).1 (h a σ1 h1).1, Nat.le_trans (h a σ1 h1).2 (k a σ1 b σ' h2).2⟩
theorem bitsM_up (k : Nat) (σ : Sg) : Up (bitsM k σ) σ := fun a σ' h => ⟨bitsM_mono k σ a σ' h, Nat.le_of_eq (bitsM_out h).1.symm⟩
theorem symM_up (L : Nat → Nat) (c : Nat) (σ : Sg) : Up (symM L c σ) σ := fun a σ' h => ⟨symM_mono L c σ a σ' h, Nat.le_of_eq (symM_out h).symm⟩
theorem growM_up (most k : Nat) (σ : Sg) : Up (growM most k σ) σ := fun a σ' h => ⟨growM_mono most k σ a σ' h, by rw [(growM_out h).1]; exact Nat.le_add_right _ _⟩
theorem checkM_up (ok : Prop) [Decidable ok] (e : Nat) (σ : Sg) : Up (checkM ok e σ) σ := by
  unfold checkM
  split
  · exact Up.ret _ _
  · exact Up.err _ _
theorem tokStep_up (L : Nat → Nat) (c : Nat) (D : Nat → Nat) (d most : Nat) (σ : Sg) : Up (tokStep L c D d most σ) σ := by
  unfold tokStep
  refine (symM_up L c σ).then fun s σ1 => ?_
  split
  · exact Up.ret _ _
  split
  · exact (growM_up _ _ _).then fun _ σ2 => Up.ret _ _
  split
  · exact Up.err _ _
  refine (bitsM_up _ _).then fun b σ2 => (symM_up _ _ _).then fun q σ3 => ?_
  split
  · exact Up.err _ _
  refine (bitsM_up _ _).then fun g σ4 => ?_
  split
  · exact Up.err _ _
  exact (growM_up _ _ _).then fun _ σ5 => Up.ret _ _
theorem tokM_up (L : Nat → Nat) (c : Nat) (D : Nat → Nat) (d most : Nat) : ∀ (f : Nat) (σ : Sg) (S : List Tok), Up (tokM L c D d most f σ S) σ := by
  intro f
  induction f with
  | zero => intro σ S; exact Up.err _ _
  | succ f ih =>
    intro σ S
    show Up (thenR _ _) σ
    refine (tokStep_up L c D d most σ).then fun t σ1 => ?_
    cases t with
    | none => exact Up.ret _ _
    | some t => exact ih σ1 _
theorem tokensM_up (m : Nat → Int) (c : Nat) (md : Nat → Int) (d most : Nat) (σ : Sg) : Up (tokensM m c md d most σ) σ :=
  (checkM_up _ _ _).then fun _ _ => (checkM_up _ _ _).then fun _ _ => tokM_up _ _ _ _ _ _ _ _
theorem storedM_up (most : Nat) (σ : Sg) : Up (storedM most σ) σ := fun l σ' h => ⟨storedM_mono most σ l σ' h, by rw [(storedM_ok h).1]; exact Nat.le_add_right _ _⟩
theorem firstM_up : ∀ (r : List Nat) (m : Nat → Int) (σ : Sg), Up (firstM r m σ) σ := by
  intro r
  induction r with
  | nil => intro m σ; exact Up.ret _ _
  | cons s r ih => intro m σ; exact (bitsM_up 3 σ).then fun v σ1 => ih _ _
theorem lenStep_up (K : Nat → Nat) (σ : Sg) (l : List Nat) : Up (lenStep K σ l) σ := by
  unfold lenStep
  refine (symM_up _ _ _).then fun s σ1 => ?_
  split
  · split
    · exact Up.err _ _
    · exact (bitsM_up _ _).then fun _ _ => Up.ret _ _
  split
  · exact (bitsM_up _ _).then fun _ _ => Up.ret _ _
  split
  · exact (bitsM_up _ _).then fun _ _ => Up.ret _ _
  exact Up.ret _ _
theorem lenLoop_up (K : Nat → Nat) (need : Nat) : ∀ (f : Nat) (σ : Sg) (l : List Nat), Up (lenLoop K need f σ l) σ := by
  intro f
  induction f with
  | zero => intro σ l; exact Up.err _ _
  | succ f ih =>
    intro σ l
    show Up (if _ then _ else _) σ
    split
    · exact (lenStep_up _ _ _).then fun l' σ1 => ih σ1 l'
    · exact Up.ret _ _
theorem dynM_up (σ : Sg) : Up (dynM σ) σ := by
  unfold dynM
  refine (bitsM_up _ _).then fun a σ1 => (bitsM_up _ _).then fun b σ2 => (bitsM_up _ _).then fun c σ3 => ?_
  split
  · exact Up.err _ _
  refine (firstM_up _ _ _).then fun m σ4 => (checkM_up _ _ _).then fun _ σ5 => (lenLoop_up _ _ _ _ _).then fun l σ6 => ?_
  split
  · exact Up.err _ _
  · exact Up.ret _ _
theorem blockM_up (most : Nat) (σ : Sg) : Up (blockM most σ) σ := by
  unfold blockM
  refine (bitsM_up _ _).then fun last σ1 => (bitsM_up _ _).then fun k σ2 => ?_
  split
  · exact (storedM_up _ _).then fun _ _ => Up.ret _ _
  split
  · exact (tokensM_up _ _ _ _ _ _).then fun _ _ => Up.ret _ _
  split
  · exact (dynM_up _).then fun _ _ => (tokensM_up _ _ _ _ _ _).then fun _ _ => Up.ret _ _
  exact Up.err _ _
theorem blocksM_up (most : Nat) : ∀ (f : Nat) (σ : Sg) (S : List Bk), Up (blocksM most f σ S) σ := by
  intro f
  induction f with
  | zero => intro σ S; exact Up.err _ _
  | succ f ih =>
    intro σ S
    show Up (thenR _ _) σ
    refine (blockM_up most σ).then fun r σ1 => ?_
    split
    · exact ih σ1 _
    · exact Up.ret _ _
end Go.Proofs.Ytjnglahjngiofaa
