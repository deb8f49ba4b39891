/- What inflate's reader says, in plain Lean. Conditions: none. -/
import Derived.Test.YtjnglahjngiofaaNext4
import Derived.Test.YtjnglahjngiofaaTok
import Derived.Test.YtjnglahjngiofaaSize
import Derived.Test.YtjnglahjngiofaaFixed
namespace Go.Proofs.Ytjnglahjngiofaa
open Go.RowKit

/-- Two codes that begin alike are one. -/
theorem ext_same (L : Nat → Nat) (n : Nat) (h15 : ∀ i, i < n → L i ≤ 15) (s t : Nat) (hs : InAll L n s) (ht : InAll L n t) (h : Ext (bitsF L n) L (bitsF L n s) (L s) t) : s = t := by
  rcases Nat.lt_trichotomy s t with hlt | rfl | hgt
  · exact absurd h (free_pre L n t ht.1 ht.2 h15 s ⟨hlt, hs.2⟩)
  · rfl
  · rcases Nat.lt_or_ge (L s) (L t) with hl | hl
    · exfalso
      obtain ⟨h1, h2⟩ := h
      have ha : ahead L s t = true := by
        unfold ahead
        rw [decide_eq_true hs.2, decide_eq_true hl]
        rfl
      have := code_apart L n s t hs.1 ha (h15 t ht.1)
      unfold bitsF at h2
      rw [if_pos hs.2, if_pos ht.2] at h2
      exact this h2
    · exfalso
      have he : L s = L t := Nat.le_antisymm h.1 hl
      refine free_pre L n s hs.1 hs.2 h15 t ⟨hgt, ht.2⟩ ⟨hl, ?_⟩
      have h2 := h.2
      rw [he, Nat.sub_self, Nat.pow_zero, Nat.div_one] at h2 ⊢
      exact h2.symm
/-- What comes next is one. -/
theorem next_one (L : Nat → Nat) (n : Nat) (h15 : ∀ i, i < n → L i ≤ 15) {X nb p s e t s' e' t' : Nat} (h : NextOut (bitsF L n) L (InAll L n) X nb p s e t) (k : NextOut (bitsF L n) L (InAll L n) X nb p s' e' t') : s = s' ∧ e = e' ∧ t = t' := by
  have key : ∀ {s e t s' e' t' : Nat}, NextOut (bitsF L n) L (InAll L n) X nb p s e t → NextOut (bitsF L n) L (InAll L n) X nb p s' e' t' → ¬ t < t' := by
    intro s e t s' e' t' h k hlt
    obtain ⟨h1, _, h3⟩ := h
    obtain ⟨_, k2, _⟩ := k
    obtain ⟨a1, σ, a2, a3, a4⟩ := k2 t h1 hlt
    rcases h3 with ⟨b1, _⟩ | ⟨_, b2, _⟩ | ⟨_, b2, b3, b4, _⟩
    · omega
    · exact b2 σ a2 a3
    · have : s = σ := ext_same L n h15 s σ b2 a2 (by rw [b4, b3]; exact a3)
      subst this
      omega
  have ht : t = t' := by
    rcases Nat.lt_trichotomy t t' with h1 | h1 | h1
    · exact absurd h1 (key h k)
    · exact h1
    · exact absurd h1 (key k h)
  subst ht
  obtain ⟨_, _, h3⟩ := h
  obtain ⟨_, _, k3⟩ := k
  rcases h3 with ⟨b1, rfl, rfl⟩ | ⟨b0, b2, rfl, rfl⟩ | ⟨b0, b2, b3, b4, rfl⟩
  · rcases k3 with ⟨c1, rfl, rfl⟩ | ⟨c0, _⟩ | ⟨c0, _⟩
    · exact ⟨rfl, rfl, rfl⟩
    · omega
    · omega
  · rcases k3 with ⟨c1, _⟩ | ⟨_, _, rfl, rfl⟩ | ⟨c0, c2, c3, c4, _⟩
    · omega
    · exact ⟨rfl, rfl, rfl⟩
    · exact absurd ⟨Nat.le_of_eq c3.symm, by rw [c3, Nat.sub_self, Nat.pow_zero, Nat.div_one]; exact c4⟩ (b2 s' c2)
  · rcases k3 with ⟨c1, _⟩ | ⟨c0, c2, _⟩ | ⟨c0, c2, c3, c4, rfl⟩
    · omega
    · exact absurd ⟨Nat.le_of_eq b3.symm, by rw [b3, Nat.sub_self, Nat.pow_zero, Nat.div_one]; exact b4⟩ (c2 s b2)
    · refine ⟨?_, rfl, rfl⟩
      exact ext_same L n h15 s s' b2 c2 ⟨by omega, by rw [b3, c3, Nat.sub_self, Nat.pow_zero, Nat.div_one, b4, c4]⟩

/-- How far a stream has been read: what is left as a number, how many bits that has, how many bytes have come out. -/
structure Sg where
  X : Nat
  n : Nat
  out : Nat
/-- The next symbol. -/
noncomputable def nextR (L : Nat → Nat) (c X n : Nat) : Nat × Nat × Nat := by
  classical
  exact if h : ∃ r : Nat × Nat × Nat, NextOut (bitsF L c) L (InAll L c) X n 0 r.1 r.2.1 r.2.2 then Classical.choose h else (0, 3, 1)
theorem nextR_of (L : Nat → Nat) (c : Nat) (h15 : ∀ i, i < c → L i ≤ 15) {X n s e t : Nat} (h : NextOut (bitsF L c) L (InAll L c) X n 0 s e t) : nextR L c X n = (s, e, t) := by
  classical
  unfold nextR
  have hex : ∃ r : Nat × Nat × Nat, NextOut (bitsF L c) L (InAll L c) X n 0 r.1 r.2.1 r.2.2 := ⟨(s, e, t), h⟩
  rw [dif_pos hex]
  obtain ⟨h1, h2, h3⟩ := next_one L c h15 (Classical.choose_spec hex) h
  rw [← h1, ← h2, ← h3]
/-- From a place on. -/
theorem NextOut.rest {F L : Nat → Nat} {In : Nat → Prop} {X nb p s e t : Nat} (h : NextOut F L In X nb p s e t) (hp : p ≤ nb) : NextOut F L In X (nb - p) 0 s e t := by
  obtain ⟨h1, h2, h3⟩ := h
  refine ⟨h1, fun m a b => ?_, ?_⟩
  · obtain ⟨c, d⟩ := h2 m a b
    exact ⟨by omega, d⟩
  · rcases h3 with ⟨a, b⟩ | ⟨a, b⟩ | ⟨a, b⟩
    · exact .inl ⟨by omega, b⟩
    · exact .inr (.inl ⟨by omega, b⟩)
    · exact .inr (.inr ⟨by omega, b⟩)

abbrev Rs (α : Type) := Except Nat (α × Sg)
/-- One thing behind the other. -/
def thenR {α β : Type} (x : Rs α) (f : α → Sg → Rs β) : Rs β :=
  match x with
  | .error e => .error e
  | .ok (a, σ) => f a σ
theorem thenR_ok {α β : Type} (a : α) (σ : Sg) (f : α → Sg → Rs β) : thenR (.ok (a, σ)) f = f a σ := rfl
theorem thenR_err {α β : Type} (e : Nat) (f : α → Sg → Rs β) : thenR (.error e : Rs α) f = .error e := rfl

/-- k bits. -/
def bitsM (k : Nat) (σ : Sg) : Rs Nat := if σ.n < k then .error 6 else .ok (σ.X % 2 ^ k, ⟨σ.X / 2 ^ k, σ.n - k, σ.out⟩)
/-- A symbol. -/
noncomputable def symM (L : Nat → Nat) (c : Nat) (σ : Sg) : Rs Nat :=
  if (nextR L c σ.X σ.n).2.1 = 0 then .ok ((nextR L c σ.X σ.n).1, ⟨σ.X / 2 ^ (nextR L c σ.X σ.n).2.2, σ.n - (nextR L c σ.X σ.n).2.2, σ.out⟩) else .error (nextR L c σ.X σ.n).2.1
/-- k bytes more come out. -/
def growM (most k : Nat) (σ : Sg) : Rs Unit := if most < σ.out + k then .error 2 else .ok ((), ⟨σ.X, σ.n, σ.out + k⟩)
def checkM (ok : Prop) [Decidable ok] (e : Nat) (σ : Sg) : Rs Unit := if ok then .ok ((), σ) else .error e

/-- One token, or the end. -/
noncomputable def tokStep (L : Nat → Nat) (c : Nat) (D : Nat → Nat) (d most : Nat) (σ : Sg) : Rs (Option Tok) :=
  thenR (symM L c σ) fun s σ1 =>
    if s = 256 then .ok (none, σ1)
    else if s < 256 then thenR (growM most 1 σ1) fun _ σ2 => .ok (some ⟨UInt8.ofNat s, 0, 0⟩, σ2)
    else if 285 < s then .error 3
    else thenR (bitsM (sizeS false ((s : Int) - 257)).2 σ1) fun b σ2 =>
      thenR (symM D d σ2) fun q σ3 =>
        if 29 < q then .error 3
        else thenR (bitsM (sizeS true (q : Int)).2 σ3) fun g σ4 =>
          if σ4.out < (sizeS true (q : Int)).1 + g then .error 3
          else thenR (growM most ((sizeS false ((s : Int) - 257)).1 + b) σ4) fun _ σ5 => .ok (some ⟨0, (((sizeS false ((s : Int) - 257)).1 + b : Nat) : Int), (((sizeS true (q : Int)).1 + g : Nat) : Int)⟩, σ5)
/-- The tokens of a block. -/
noncomputable def tokM (L : Nat → Nat) (c : Nat) (D : Nat → Nat) (d most : Nat) : Nat → Sg → List Tok → Rs (List Tok)
  | 0, _, _ => .error 0
  | f + 1, σ, S => thenR (tokStep L c D d most σ) fun t σ1 =>
      match t with
      | none => .ok (S, σ1)
      | some t => tokM L c D d most f σ1 (S ++ [t])
instance (p s : Nat) : Decidable (Fits p s) := by unfold Fits; infer_instance
/-- Are these lengths codes? -/
def fitM (m : Nat → Int) (c : Nat) (σ : Sg) : Rs Unit := checkM (Fits (parts (lens m) c) (someOf (lens m) c)) 3 σ
noncomputable def tokensM (m : Nat → Int) (c : Nat) (md : Nat → Int) (d most : Nat) (σ : Sg) : Rs (List Tok) :=
  thenR (fitM m c σ) fun _ σ1 => thenR (fitM md d σ1) fun _ σ2 => tokM (lens m) c (lens md) d most (σ2.n + 1) σ2 []

/-- k bytes off a number. -/
def bytesX (X : Nat) : Nat → List UInt8
  | 0 => []
  | k + 1 => UInt8.ofNat (X % 256) :: bytesX (X / 256) k
/-- To the next byte. -/
def evenM (σ : Sg) : Sg := ⟨σ.X / 2 ^ (σ.n % 8), σ.n - σ.n % 8, σ.out⟩
/-- A stored block's bytes. -/
def storedM (most : Nat) (σ : Sg) : Rs (List UInt8) :=
  thenR (bitsM 16 (evenM σ)) fun a σ1 => thenR (bitsM 16 σ1) fun b σ2 =>
    if a + b ≠ 65535 then .error 3
    else if σ2.n < 8 * a then .error 6
    else thenR (growM most a ⟨σ2.X / 2 ^ (8 * a), σ2.n - 8 * a, σ2.out⟩) fun _ σ3 => .ok (bytesX σ2.X a, σ3)

def ordL : List Nat := [16, 17, 18, 0, 8, 7, 9, 6, 10, 5, 11, 4, 12, 3, 13, 2, 14, 1, 15]
/-- The lengths of the first codes, told by three bits each. -/
def firstM : List Nat → (Nat → Int) → Sg → Rs (Nat → Int)
  | [], m, σ => .ok (m, σ)
  | s :: r, m, σ => thenR (bitsM 3 σ) fun v σ1 => firstM r (fun i => if i = s then (v : Int) else m i) σ1
/-- What one symbol of the first code adds to the lengths. -/
noncomputable def lenStep (K : Nat → Nat) (σ : Sg) (l : List Nat) : Rs (List Nat) :=
  thenR (symM K 19 σ) fun s σ1 =>
    if s = 16 then (if l = [] then .error 3 else thenR (bitsM 2 σ1) fun b σ2 => .ok (l ++ List.replicate (3 + b) (l.getLastD 0), σ2))
    else if s = 17 then thenR (bitsM 3 σ1) fun b σ2 => .ok (l ++ List.replicate (3 + b) 0, σ2)
    else if s = 18 then thenR (bitsM 7 σ1) fun b σ2 => .ok (l ++ List.replicate (11 + b) 0, σ2)
    else .ok (l ++ [s], σ1)
noncomputable def lenLoop (K : Nat → Nat) (need : Nat) : Nat → Sg → List Nat → Rs (List Nat)
  | 0, _, _ => .error 0
  | f + 1, σ, l => if l.length < need then thenR (lenStep K σ l) fun l' σ1 => lenLoop K need f σ1 l' else .ok (l, σ)
/-- The lengths of a dynamic block, and how many of them are those of sizes and bytes. -/
noncomputable def dynM (σ : Sg) : Rs (List Nat × Nat) :=
  thenR (bitsM 5 σ) fun a σ1 => thenR (bitsM 5 σ1) fun b σ2 => thenR (bitsM 4 σ2) fun c σ3 =>
    if 286 < a + 257 ∨ 30 < b + 1 then .error 3
    else thenR (firstM (ordL.take (c + 4)) (fun _ => 0) σ3) fun m σ4 => thenR (fitM m 19 σ4) fun _ σ5 =>
      thenR (lenLoop (lens m) (a + 257 + (b + 1)) (σ5.n + 1) σ5 []) fun l σ6 =>
        if a + 257 + (b + 1) < l.length ∨ l.getD 256 0 = 0 then .error 3 else .ok ((l, a + 257), σ6)
/-- A list of lengths as a function. -/
def lenF (l : List Nat) (i : Nat) : Int := (l.getD i 0 : Nat)

/-- A block. -/
structure Bk where
  kind : Nat
  bytes : List UInt8
  toks : List Tok
noncomputable def blockM (most : Nat) (σ : Sg) : Rs (Nat × Bk) :=
  thenR (bitsM 1 σ) fun last σ1 => thenR (bitsM 2 σ1) fun k σ2 =>
    if k = 0 then thenR (storedM most σ2) fun s σ3 => .ok ((last, ⟨0, s, []⟩), σ3)
    else if k = 1 then thenR (tokensM fixL 288 (fun _ => 5) 32 most σ2) fun S σ3 => .ok ((last, ⟨1, [], S⟩), σ3)
    else if k = 2 then thenR (dynM σ2) fun l σ3 => thenR (tokensM (lenF (l.1.take l.2)) l.2 (lenF (l.1.drop l.2)) (l.1.length - l.2) most σ3) fun S σ4 => .ok ((last, ⟨2, [], S⟩), σ4)
    else .error 3
noncomputable def blocksM (most : Nat) : Nat → Sg → List Bk → Rs (List Bk)
  | 0, _, _ => .error 0
  | f + 1, σ, out => thenR (blockM most σ) fun r σ1 => if r.1 = 0 then blocksM most f σ1 (out ++ [r.2]) else .ok (out ++ [r.2], σ1)
end Go.Proofs.Ytjnglahjngiofaa
