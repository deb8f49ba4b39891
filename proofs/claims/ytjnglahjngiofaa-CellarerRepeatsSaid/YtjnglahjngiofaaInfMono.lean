/- The plain reader never goes back. Plain. Conditions: none. -/
import Derived.Test.YtjnglahjngiofaaInfM
namespace Go.Proofs.Ytjnglahjngiofaa
open Go.RowKit

theorem thenR_inv {α β : Type} {x : Rs α} {f : α → Sg → Rs β} {b : β} {σ' : Sg} (h : thenR x f = .ok (b, σ')) : ∃ a σ1, x = .ok (a, σ1) ∧ f a σ1 = .ok (b, σ') := by
  rcases x with e | ⟨a, σ⟩
  · cases h
  · exact ⟨a, σ, rfl, h⟩
/-- What is read is not given back. -/
def Mono {α : Type} (x : Rs α) (σ : Sg) : Prop := ∀ a σ', x = .ok (a, σ') → σ'.n ≤ σ.n
theorem Mono.err {α : Type} (e : Nat) (σ : Sg) : Mono (.error e : Rs α) σ := fun _ _ h => by cases h
theorem Mono.ret {α : Type} (a : α) (σ : Sg) : Mono (.ok (a, σ) : Rs α) σ := fun _ _ h => by injection h with h; injection h with _ h; subst h; exact Nat.le_refl _
theorem Mono.then {α β : Type} {x : Rs α} {f : α → Sg → Rs β} {σ : Sg} (h : Mono x σ) (k : ∀ a σ1, Mono (f a σ1) σ1) : Mono (thenR x f) σ := fun b σ' e => by
  obtain ⟨a, σ1, h1, h2⟩ := thenR_inv e
  exact Nat.le_trans (k a σ1 b σ' h2) (h a σ1 h1)
theorem bitsM_mono (k : Nat) (σ : Sg) : Mono (bitsM k σ) σ := fun a σ' h => by
  unfold bitsM at h
  split at h
  · cases h
  · injection h with h; injection h with _ h; subst h; exact Nat.sub_le _ _
theorem symM_mono (L : Nat → Nat) (c : Nat) (σ : Sg) : Mono (symM L c σ) σ := fun a σ' h => by
  unfold symM at h
  split at h
  · injection h with h; injection h with _ h; subst h; exact Nat.sub_le _ _
  · cases h
theorem growM_mono (most k : Nat) (σ : Sg) : Mono (growM most k σ) σ := fun a σ' h => by
  unfold growM at h
  split at h
  · cases h
  · injection h with h; injection h with _ h; subst h; exact Nat.le_refl _
theorem checkM_mono (ok : Prop) [Decidable ok] (e : Nat) (σ : Sg) : Mono (checkM ok e σ) σ := by
  unfold checkM
  split
  · exact Mono.ret _ _
  · exact Mono.err _ _
theorem tokStep_mono (L : Nat → Nat) (c : Nat) (D : Nat → Nat) (d most : Nat) (σ : Sg) : Mono (tokStep L c D d most σ) σ := by
  unfold tokStep
  refine (symM_mono L c σ).then fun s σ1 => ?_
  split
  · exact Mono.ret _ _
  split
  · exact (growM_mono _ _ _).then fun _ σ2 => Mono.ret _ _
  split
  · exact Mono.err _ _
  refine (bitsM_mono _ _).then fun b σ2 => (symM_mono _ _ _).then fun q σ3 => ?_
  split
  · exact Mono.err _ _
  refine (bitsM_mono _ _).then fun g σ4 => ?_
  split
  · exact Mono.err _ _
  exact (growM_mono _ _ _).then fun _ σ5 => Mono.ret _ _
theorem tokM_mono (L : Nat → Nat) (c : Nat) (D : Nat → Nat) (d most : Nat) : ∀ (f : Nat) (σ : Sg) (S : List Tok), Mono (tokM L c D d most f σ S) σ := by
  intro f
  induction f with
  | zero => intro σ S; exact Mono.err _ _
  | succ f ih =>
    intro σ S
    show Mono (thenR _ _) σ
    refine (tokStep_mono L c D d most σ).then fun t σ1 => ?_
    cases t with
    | none => exact Mono.ret _ _
    | some t => exact ih σ1 _
theorem tokensM_mono (m : Nat → Int) (c : Nat) (md : Nat → Int) (d most : Nat) (σ : Sg) : Mono (tokensM m c md d most σ) σ :=
  (checkM_mono _ _ _).then fun _ _ => (checkM_mono _ _ _).then fun _ _ => tokM_mono _ _ _ _ _ _ _ _
theorem storedM_mono (most : Nat) (σ : Sg) : Mono (storedM most σ) σ := by
  intro a σ' h
  have h0 : (evenM σ).n ≤ σ.n := Nat.sub_le _ _
  refine Nat.le_trans ?_ h0
  have hm : Mono (storedM most σ) (evenM σ) := by
    unfold storedM
    refine (bitsM_mono _ _).then fun a σ1 => (bitsM_mono _ _).then fun b σ2 => ?_
    split
    · exact Mono.err _ _
    split
    · exact Mono.err _ _
    intro a' σ'' h
    obtain ⟨u, σ3, h1, h2⟩ := thenR_inv h
    have h3 := growM_mono _ _ _ u σ3 h1
    injection h2 with h2
    injection h2 with _ h2
    subst h2
    exact Nat.le_trans h3 (Nat.sub_le _ _)
  exact hm a σ' h
theorem firstM_mono : ∀ (r : List Nat) (m : Nat → Int) (σ : Sg), Mono (firstM r m σ) σ := by
  intro r
  induction r with
  | nil => intro m σ; exact Mono.ret _ _
  | cons s r ih => intro m σ; exact (bitsM_mono 3 σ).then fun v σ1 => ih _ _
theorem lenStep_mono (K : Nat → Nat) (σ : Sg) (l : List Nat) : Mono (lenStep K σ l) σ := by
  unfold lenStep
  refine (symM_mono _ _ _).then fun s σ1 => ?_
  split
  · split
    · exact Mono.err _ _
    · exact (bitsM_mono _ _).then fun _ _ => Mono.ret _ _
  split
  · exact (bitsM_mono _ _).then fun _ _ => Mono.ret _ _
  split
  · exact (bitsM_mono _ _).then fun _ _ => Mono.ret _ _
  exact Mono.ret _ _
theorem lenLoop_mono (K : Nat → Nat) (need : Nat) : ∀ (f : Nat) (σ : Sg) (l : List Nat), Mono (lenLoop K need f σ l) σ := by
  intro f
  induction f with
  | zero => intro σ l; exact Mono.err _ _
  | succ f ih =>
    intro σ l
    show Mono (if _ then _ else _) σ
    split
    · exact (lenStep_mono _ _ _).then fun l' σ1 => ih σ1 l'
    · exact Mono.ret _ _
theorem dynM_mono (σ : Sg) : Mono (dynM σ) σ := by
  unfold dynM
  refine (bitsM_mono _ _).then fun a σ1 => (bitsM_mono _ _).then fun b σ2 => (bitsM_mono _ _).then fun c σ3 => ?_
  split
  · exact Mono.err _ _
  refine (firstM_mono _ _ _).then fun m σ4 => (checkM_mono _ _ _).then fun _ σ5 => (lenLoop_mono _ _ _ _ _).then fun l σ6 => ?_
  split
  · exact Mono.err _ _
  · exact Mono.ret _ _
end Go.Proofs.Ytjnglahjngiofaa
